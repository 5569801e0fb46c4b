/- How many members a set has is a fact of the set. No program in sight. -/
import Derived.Test.YtfjodcfbhpglhaaM16
import Derived.Test.YtfjodcfbhpglhaaM14
namespace Go.Hyp
/-- One node for each member of a set. -/
structure Reps (p : List (List Int)) (i : Nat) (L : List Nat) : Prop where
  mem : ∀ v ∈ L, Mem p i v
  apart : L.Pairwise fun a b => ¬ Same p a p b
  all : ∀ v, Mem p i v → ∃ u ∈ L, Same p u p v
theorem reps_le {p q : List (List Int)} {i j : Nat} {L M : List Nat} (hL : Reps p i L) (hM : Reps q j M) (h : ∀ v, Mem p i v → ∃ u, Mem q j u ∧ Same p v q u) : L.length ≤ M.length := by
  have hex : ∀ v, ∃ u, v ∈ L → (u ∈ M ∧ Same p v q u) := fun v => by
    by_cases hv : v ∈ L
    · obtain ⟨u0, h1, h2⟩ := h v (hL.mem v hv)
      obtain ⟨u, hu, hs⟩ := hM.all u0 h1
      exact ⟨u, fun _ => ⟨hu, h2.trans hs.symm⟩⟩
    · exact ⟨0, fun h => absurd h hv⟩
  obtain ⟨g, hg⟩ := Classical.axiomOfChoice hex
  have hnd : (L.map g).Nodup := by
    rw [List.nodup_iff_pairwise_ne, List.pairwise_map]
    have hp := hL.apart
    rw [List.pairwise_iff_getElem] at hp ⊢
    intro a b ha hb hab e
    have h1 := (hg _ (List.getElem_mem ha)).2
    have h2 := (hg _ (List.getElem_mem hb)).2
    rw [e] at h1
    exact hp a b ha hb hab (h1.trans h2.symm)
  have := hnd.length_le_of_subset (l₂ := M) (fun x hx => by
    obtain ⟨v, hv, rfl⟩ := List.mem_map.1 hx
    exact (hg v hv).1)
  rwa [List.length_map] at this
theorem reps_eq {p q : List (List Int)} {i j : Nat} {L M : List Nat} (hL : Reps p i L) (hM : Reps q j M) (h : Same p i q j) : L.length = M.length := by
  apply Nat.le_antisymm
  · exact reps_le hL hM fun v hv => by
      obtain ⟨u, h1, h2, h3⟩ := h.to hv.1 hv.2
      exact ⟨u, ⟨h1, h2⟩, h3⟩
  · exact reps_le hM hL fun v hv => by
      obtain ⟨u, h1, h2, h3⟩ := h.symm.to hv.1 hv.2
      exact ⟨u, ⟨h1, h2⟩, h3⟩
/-- How many members the set at i has. -/
def cardN (p : List (List Int)) (i : Nat) : Nat := manyN p (arrL p i p.length) (arrL p i p.length).length
/-- The members that ManyIn counts. -/
def cardL (p : List (List Int)) (i : Nat) : List Nat := ((List.range (arrL p i p.length).length).filter (freshB p (arrL p i p.length))).map fun k => ((arrL p i p.length).getD k 0).toNat
theorem cardL_len (p : List (List Int)) (i : Nat) : (cardL p i).length = cardN p i := by unfold cardL cardN manyN; rw [List.length_map]
theorem arrL_mem2 {p : List (List Int)} {i k : Nat} (hk : k < (arrL p i p.length).length) : Mem p i ((arrL p i p.length).getD k 0).toNat := by
  obtain ⟨x, h1, h2, h3⟩ := arrL_at hk
  rw [getD_lt hk, h1, Int.toNat_natCast]
  exact ⟨h2, h3⟩
theorem cardL_reps (p : List (List Int)) (i : Nat) : Reps p i (cardL p i) := by
  refine ⟨fun v hv => ?_, ?_, fun v hv => ?_⟩
  · unfold cardL at hv
    obtain ⟨k, hk, rfl⟩ := List.mem_map.1 hv
    exact arrL_mem2 (List.mem_range.1 (List.mem_filter.1 hk).1)
  · unfold cardL
    rw [List.pairwise_map]
    refine List.Pairwise.imp_of_mem (R := fun a b => a < b) (fun {a b} ha hb hab hs => ?_) (List.pairwise_lt_range.filter _)
    have hb2 := (List.mem_filter.1 hb).2
    have ha1 := List.mem_range.1 (List.mem_filter.1 ha).1
    have hb1 := List.mem_range.1 (List.mem_filter.1 hb).1
    unfold freshB at hb2
    rw [List.all_eq_true] at hb2
    have := hb2 a (List.mem_range.2 hab)
    rw [(simB_iff (arrL_mem2 ha1).1 (arrL_mem2 hb1).1).2 hs] at this
    cases this
  · have hm := arrL_mem.2 ⟨v, rfl, hv.1, hv.2⟩
    obtain ⟨k, hk⟩ := List.mem_iff_getElem?.1 hm
    obtain ⟨hk1, hk2⟩ := List.getElem?_eq_some_iff.1 hk
    have key : ∀ n k, k ≤ n → k < (arrL p i p.length).length → ∃ j, j < (arrL p i p.length).length ∧ freshB p (arrL p i p.length) j = true ∧ Same p ((arrL p i p.length).getD j 0).toNat p ((arrL p i p.length).getD k 0).toNat := by
      intro n
      induction n with
      | zero =>
        intro k hkn hkl
        obtain rfl : k = 0 := by omega
        exact ⟨0, hkl, by simp [freshB], Same.refl (arrL_mem2 hkl).1⟩
      | succ n ih =>
        intro k hkn hkl
        cases hf : freshB p (arrL p i p.length) k
        · unfold freshB at hf
          rw [List.all_eq_false] at hf
          obtain ⟨j, hj, e⟩ := hf
          have hjk := List.mem_range.1 hj
          have e2 : simB p ((arrL p i p.length).getD j 0).toNat ((arrL p i p.length).getD k 0).toNat = true := by simpa using e
          have hs := (simB_iff (arrL_mem2 (by omega)).1 (arrL_mem2 hkl).1).1 e2
          obtain ⟨m, h1, h2, h3⟩ := ih j (by omega) (by omega)
          exact ⟨m, h1, h2, h3.trans hs⟩
        · exact ⟨k, hkl, hf, Same.refl (arrL_mem2 hkl).1⟩
    obtain ⟨j, h1, h2, h3⟩ := key k k (Nat.le_refl _) hk1
    refine ⟨((arrL p i p.length).getD j 0).toNat, List.mem_map.2 ⟨j, List.mem_filter.2 ⟨List.mem_range.2 h1, h2⟩, rfl⟩, ?_⟩
    rw [getD_lt hk1, hk2, Int.toNat_natCast] at h3
    exact h3
theorem card_same {p q : List (List Int)} {i j : Nat} (h : Same p i q j) : cardN p i = cardN q j := by
  rw [← cardL_len, ← cardL_len]; exact reps_eq (cardL_reps p i) (cardL_reps q j) h
theorem card_of {p : List (List Int)} {i : Nat} {L : List Nat} (h : Reps p i L) : cardN p i = L.length ∨ ¬ i < p.length := by
  by_cases hi : i < p.length
  · left; rw [← cardL_len]; exact reps_eq (cardL_reps p i) h (Same.refl hi)
  · exact .inr hi
/-- In a reduced picture each member is one node. -/
theorem card_red {p : List (List Int)} {i : Nat} (hi : i < p.length) (h : ∀ a b, a < p.length → b < p.length → Same p a p b → a = b) : cardN p i = (arrL p i p.length).length := by
  have hr : Reps p i ((List.range p.length).filter (arr p i)) := by
    refine ⟨fun v hv => ?_, ?_, fun v hv => ⟨v, List.mem_filter.2 ⟨List.mem_range.2 hv.1, hv.2⟩, Same.refl hv.1⟩⟩
    · obtain ⟨h1, h2⟩ := List.mem_filter.1 hv
      exact ⟨List.mem_range.1 h1, h2⟩
    · refine List.Pairwise.imp_of_mem (R := fun a b => a < b) (fun {a b} ha hb hab hs => ?_) (List.pairwise_lt_range.filter _)
      have := h a b hs.lt.1 hs.lt.2 hs
      omega
  rcases card_of hr with e | e
  · rw [e]; unfold arrL; rw [List.length_map]
  · exact absurd hi e
end Go.Hyp
