/- How long two nodes hold: both ways of finding it. -/
import Derived.Test.YtiiohodkfipfbaaGreatDoorLeftS
namespace Go.Hyp
open Go.RowKit Go.Deep
/-- Two nodes, told by numbers, draw the same set. -/
def sameAtB (p : List (List Int)) (a b : Int) : Bool := nodeB p a && nodeB p b && simB p a.toNat b.toNat
/-- How long two nodes hold; 1000 for ever. -/
def heldN (p : List (List Int)) (a b : Nat) : Nat := ((List.range (p.length + 1)).find? fun r => !left p (r + 1) a b).getD 1000
theorem heldN_sim {p : List (List Int)} {a b : Nat} (ha : a < p.length) (hb : b < p.length) (h : simB p a b = true) : heldN p a b = 1000 ∧ ∀ r, left p r a b = true := by
  have key : ∀ r, left p r a b = true := fun r => same_left ((simB_iff ha hb).1 h) r
  refine ⟨?_, key⟩
  unfold heldN
  rw [List.find?_eq_none.2 (fun r _ => by simp [key])]
  rfl
theorem heldN_apart {p : List (List Int)} {a b : Nat} (h : simB p a b = false) : heldN p a b < p.length ∧ (∀ r, r ≤ heldN p a b → left p r a b = true) ∧ ∀ r, heldN p a b < r → left p r a b = false := by
  have hpos : 0 < p.length := by
    rcases Nat.eq_zero_or_pos p.length with e | e
    · unfold simB at h; rw [e] at h; cases h
    · exact e
  have hf : ∃ r, (List.range (p.length + 1)).find? (fun r => !left p (r + 1) a b) = some r := by
    cases e : (List.range (p.length + 1)).find? fun r => !left p (r + 1) a b with
    | some r => exact ⟨r, rfl⟩
    | none =>
      rw [List.find?_eq_none] at e
      have := e (p.length - 1) (by simp; omega)
      rw [show p.length - 1 + 1 = p.length by omega] at this
      unfold simB at h
      rw [h] at this; simp at this
  obtain ⟨r, hr⟩ := hf
  have e : heldN p a b = r := by unfold heldN; rw [hr]; rfl
  rw [List.find?_range_eq_some] at hr
  obtain ⟨h1, h2, h3⟩ := hr
  have hfalse : left p (r + 1) a b = false := by simpa using h1
  rw [e]
  refine ⟨?_, fun m hm => ?_, fun m hm => ?_⟩
  · rcases Nat.lt_or_ge r p.length with h' | h'
    · exact h'
    · have := h3 (p.length - 1) (by omega)
      rw [show p.length - 1 + 1 = p.length by omega] at this
      unfold simB at h
      rw [h] at this; simp at this
  · cases m with
    | zero => rfl
    | succ m => simpa using h3 m (by omega)
  · cases hx : left p m a b
    · rfl
    · have := left_anti (r := r + 1) (by omega) hx
      rw [hfalse] at this; cases this
/-- What HeldFor answers. -/
def heldOk (p : List (List Int)) (a b : Int) : Bool := nodeB p a && nodeB p b && !simB p a.toNat b.toNat
def heldI (p : List (List Int)) (a b : Int) : Int := if heldOk p a b = true then (heldN p a.toNat b.toNat : Int) else -1
theorem nodeB_nat {p : List (List Int)} {a : Int} (h : nodeB p a = true) : ∃ n : Nat, a = n ∧ n < p.length ∧ picB p = true := by
  unfold nodeB at h
  simp only [Bool.and_eq_true, decide_eq_true_eq] at h
  obtain ⟨n, rfl⟩ := Int.eq_ofNat_of_zero_le h.1.2
  exact ⟨n, rfl, by omega, h.1.1⟩
theorem nodeB_of {p : List (List Int)} {n : Nat} (h : picB p = true) (hn : n < p.length) : nodeB p n = true := by
  unfold nodeB; rw [h]; simp; exact hn
theorem leftR_pic {p : List (List Int)} {r : Nat} (h : picB p = true) (hr : r ≤ 30) : leftR p r = mat p.length p.length (left p r) := by
  unfold leftR
  rw [h, if_pos (by simp; omega)]
  rfl
theorem leftR_no {p : List (List Int)} {r : Int} (h : picB p = false) : leftR p r = [] := by unfold leftR; rw [h]; rfl
end Go.Hyp
namespace Go.Proofs.YtiiohodkfipfbaaGreatDoor
open Go.RowKit Go.Hyp Go.Deep

end Go.Proofs.YtiiohodkfipfbaaGreatDoor
