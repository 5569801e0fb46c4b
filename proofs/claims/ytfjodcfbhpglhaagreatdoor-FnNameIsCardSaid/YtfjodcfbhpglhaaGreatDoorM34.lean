/- The least picture of a name of a system. No program in sight. -/
import Derived.Test.YtfjodcfbhpglhaaGreatDoorM26
import Derived.Test.YtfjodcfbhpglhaaGreatDoorM32
import Derived.Test.YtfjodcfbhpglhaaGreatDoorM33
namespace Go.Hyp
/-- What NameIs answers. -/
def nameR (s : List (List Int × Int)) (n : Int) : List (List Int) := if (sysB s && numB s n) = true then leastC (solL s) n.toNat else []
theorem nameR_no {s : List (List Int × Int)} {n : Int} (h : (sysB s && numB s n) = false) : nameR s n = [] := by unfold nameR; rw [h]; rfl
theorem name_node {s : List (List Int × Int)} {k : Nat} (h : sysB s = true) (hk : k < s.length) : nodeB (solL s) k = true := by
  unfold nodeB
  rw [sol_pic h, solL_len, decide_eq_true (by omega), decide_eq_true (by omega)]; rfl
theorem numB_of {s : List (List Int × Int)} {k : Nat} (hk : k < s.length) : numB s k = true := by
  unfold numB
  rw [decide_eq_true (by omega), decide_eq_true (by omega)]; rfl
theorem nameR_yes {s : List (List Int × Int)} {k : Nat} (h : sysB s = true) (hk : k < s.length) : nameR s k = leastR (solL s) k := by
  unfold nameR
  rw [h, numB_of hk, leastR_yes (name_node h hk), Int.toNat_natCast]; rfl
theorem nameR_pic {s : List (List Int × Int)} {k : Nat} (h : sysB s = true) (hk : k < s.length) : picB (nameR s k) = true := by
  rw [nameR_yes h hk]; exact leastR_pic (name_node h hk)
theorem nameR_small (s : List (List Int × Int)) (n : Int) : (nameR s n).length ≤ 1048576 ∧ lens (nameR s n) ≤ 1048576 := by
  cases h : (sysB s && numB s n)
  · rw [nameR_no h]; exact ⟨by simp, by show 0 ≤ _; omega⟩
  · simp only [Bool.and_eq_true] at h
    obtain ⟨k, rfl, hk⟩ := numB_nat h.2
    rw [nameR_yes h.1 hk]; exact leastOf_small _ _
theorem nameR_len (s : List (List Int × Int)) (n : Int) : (nameR s n).length ≤ 5 := by
  cases h : (sysB s && numB s n)
  · rw [nameR_no h]; exact Nat.zero_le _
  · simp only [Bool.and_eq_true] at h
    obtain ⟨k, rfl, hk⟩ := numB_nat h.2
    rw [nameR_yes h.1 hk]; exact leastR_len
/-- No picture of a name is empty. -/
theorem nameR_none {s : List (List Int × Int)} {n : Int} : (nameR s n).length = 0 ↔ (sysB s && numB s n) = false := by
  constructor
  · intro h0
    cases h : (sysB s && numB s n)
    · rfl
    · simp only [Bool.and_eq_true] at h
      obtain ⟨k, rfl, hk⟩ := numB_nat h.2
      have := (picB_sq (nameR_pic h.1 hk)).2.1
      omega
  · intro h; rw [nameR_no h]; rfl
/-- The name draws the set that its picture draws. -/
theorem name_draws {s : List (List Int × Int)} {k : Nat} (h : sysB s = true) (hk : k < s.length) : sameSetB (solL s) k (nameR s k) 0 = true := by
  rw [nameR_yes h hk]; exact same_draws (name_node h hk)
theorem name_same {s : List (List Int × Int)} {a b : Nat} (h : sysB s = true) (ha : a < s.length) (hb : b < s.length) : decide (nameR s a = nameR s b) = alikeB s a b := by
  rw [nameR_yes h ha, nameR_yes h hb, same_least (name_node h ha) (name_node h hb)]
  unfold alikeB
  rw [h, numB_of ha, numB_of hb, Bool.eq_iff_iff, sameSetB_iff (name_node h ha) (name_node h hb)]
  rw [← simB_iff (by rw [solL_len]; omega) (by rw [solL_len]; omega)]
  simp
theorem alike_swap {s : List (List Int × Int)} {a b : Int} : alikeB s a b = alikeB s b a := by
  unfold alikeB
  have : simB (solL s) a.toNat b.toNat = simB (solL s) b.toNat a.toNat := left_symm _ _ _ _
  rw [this]
  cases sysB s <;> cases numB s a <;> cases numB s b <;> rfl
theorem alike_sent {s : List (List Int × Int)} {a b : Nat} (h : sysB s = true) (ha : a < s.length) (hb : b < s.length) (e : s.getD a ([], 0) = s.getD b ([], 0)) : alikeB s a b = true := by
  have := sol_alike ha hb e
  unfold alikeB
  rw [h, numB_of ha, numB_of hb, Int.toNat_natCast, Int.toNat_natCast, (simB_iff (by rw [solL_len]; omega) (by rw [solL_len]; omega)).2 this]; rfl
/-- Sets that are a solution are those of the names. -/
theorem sol_names {s : List (List Int × Int)} {P : Nat → List (List Int)} {nd : Nat → Nat} (hs : sysB s = true) (h : Sol s P nd) (hn : ∀ k, k < s.length → nodeB (P k) (nd k) = true) {k : Nat} (hk : k < s.length) : sameSetB (P k) (nd k) (nameR s k) 0 = true := by
  have hlt : ∀ k, k < s.length → nd k < (P k).length := fun k hk => by
    obtain ⟨i, e, hi, _⟩ := nodeB_nat (hn k hk)
    omega
  have h1 := sol_unique h hlt hk
  have n1 := node0 (nameR_pic hs hk)
  have h2 := (sameSetB_iff (q := nameR s k) (j := 0) (name_node hs hk) n1).1 (name_draws hs hk)
  exact (sameSetB_iff (q := nameR s k) (j := 0) (hn k hk) n1).2 (h1.trans h2)
/-! ### systems of pictures -/
theorem sysOf_name {p : List (List Int)} (hs : Sq p) {k m : Nat} (hk : k < p.length) (hm : m < p.length) : nameB (sysOfL p) k m = arr p k m := by
  unfold nameB sysOfL arr
  simp [List.getD, hk]
theorem sysOf_code {p : List (List Int)} {k : Nat} : codeY (sysOfL p) k = 0 := by
  unfold codeY sysOfL
  by_cases hk : k < p.length
  · simp [List.getD, hk]
  · simp [List.getD, hk]
theorem sysOf_sol {p : List (List Int)} (hs : Sq p) : Sol (sysOfL p) (fun _ => p) (fun k => k) := by
  intro k hk
  rw [sysOfL_len] at hk ⊢
  refine ⟨fun v hv => .inl ⟨v, hv.1, ?_, Same.refl hv.1⟩, fun m hm hb => ⟨m, ⟨hm, ?_⟩, Same.refl hm⟩, fun h => ?_, fun h => ?_⟩
  · rw [sysOf_name hs hk hv.1]; exact hv.2
  · rw [sysOf_name hs hk hm] at hb; exact hb
  · rw [sysOf_code] at h; omega
  · rw [sysOf_code] at h; omega
theorem sysOf_sys {p : List (List Int)} (h : sysOfB p = true) : sysB (sysOfL p) = true := by
  unfold sysOfB at h
  simp only [Bool.and_eq_true, decide_eq_true_eq] at h
  obtain ⟨hs, h1, h5⟩ := picB_sq h.1
  unfold sysB
  rw [sysOfL_len, decide_eq_true (by omega), decide_eq_true (by omega), Bool.and_true, Bool.and_true]
  unfold saidsB
  rw [List.all_eq_true]
  intro x hx
  unfold sysOfL at hx
  obtain ⟨r, hr, rfl⟩ := List.mem_map.1 hx
  obtain ⟨k, hk, rfl⟩ := List.getElem_of_mem hr
  have := hs.row k hk
  unfold saidB
  simp [this.1, this.2]
theorem sysOf_same {p : List (List Int)} {k : Nat} (h : sysOfB p = true) (hk : k < p.length) : sameSetB p k (nameR (sysOfL p) k) 0 = true := by
  have hp : picB p = true := by unfold sysOfB at h; simp only [Bool.and_eq_true] at h; exact h.1
  have hs := (picB_sq hp).1
  refine sol_names (P := fun _ => p) (nd := fun k => k) (sysOf_sys h) (sysOf_sol hs) (fun j hj => ?_) (by rw [sysOfL_len]; exact hk)
  rw [sysOfL_len] at hj
  unfold nodeB
  rw [hp, decide_eq_true (by omega), decide_eq_true (by omega)]; rfl
end Go.Hyp
