/- The least picture of a name of a system. No program in sight. Solutions of systems, plain: what SolutionOk answers. Slices of pictures in memory; the lists due and at of impl.isSaid. The two lists that grow, above a bound: what a draw makes. Walks of the law's functions on slices of pictures. -/
import Derived.Test.YtfjodcfbhpglhaaM21
import Derived.Test.YtfjodcfbhpglhaaM22
import Derived.Test.YtfjodcfbhpglhaaM23
import Derived.Test.YtfjodcfbhpglhaaM7
import Derived.Test.YtfjodcfbhpglhaaM3
namespace Go.Hyp
/-- What NameIs answers. -/
def nameR (s : List (List Int × Int)) (n : Int) : List (List Int) := if (sysB s && numB s n) = true then leastC (solL s) n.toNat else []
theorem nameR_no {s : List (List Int × Int)} {n : Int} (h : (sysB s && numB s n) = false) : nameR s n = [] := by unfold nameR; rw [h]; rfl
theorem name_node {s : List (List Int × Int)} {k : Nat} (h : sysB s = true) (hk : k < s.length) : nodeB (solL s) k = true := by
  unfold nodeB
  rw [sol_pic h, solL_len, decide_eq_true (by omega), decide_eq_true (by omega)]; rfl
theorem numB_of {s : List (List Int × Int)} {k : Nat} (hk : k < s.length) : numB s k = true := by
  unfold numB
  rw [decide_eq_true (by omega), decide_eq_true (by omega)]; rfl
theorem nameR_yes {s : List (List Int × Int)} {k : Nat} (h : sysB s = true) (hk : k < s.length) : nameR s k = leastR (solL s) k := by
  unfold nameR
  rw [h, numB_of hk, leastR_yes (name_node h hk), Int.toNat_natCast]; rfl
theorem nameR_pic {s : List (List Int × Int)} {k : Nat} (h : sysB s = true) (hk : k < s.length) : picB (nameR s k) = true := by
  rw [nameR_yes h hk]; exact leastR_pic (name_node h hk)
theorem nameR_small (s : List (List Int × Int)) (n : Int) : (nameR s n).length ≤ 1048576 ∧ lens (nameR s n) ≤ 1048576 := by
  cases h : (sysB s && numB s n)
  · rw [nameR_no h]; exact ⟨by simp, by show 0 ≤ _; omega⟩
  · simp only [Bool.and_eq_true] at h
    obtain ⟨k, rfl, hk⟩ := numB_nat h.2
    rw [nameR_yes h.1 hk]; exact leastOf_small _ _
theorem nameR_len (s : List (List Int × Int)) (n : Int) : (nameR s n).length ≤ 5 := by
  cases h : (sysB s && numB s n)
  · rw [nameR_no h]; exact Nat.zero_le _
  · simp only [Bool.and_eq_true] at h
    obtain ⟨k, rfl, hk⟩ := numB_nat h.2
    rw [nameR_yes h.1 hk]; exact leastR_len
/-- No picture of a name is empty. -/
theorem nameR_none {s : List (List Int × Int)} {n : Int} : (nameR s n).length = 0 ↔ (sysB s && numB s n) = false := by
  constructor
  · intro h0
    cases h : (sysB s && numB s n)
    · rfl
    · simp only [Bool.and_eq_true] at h
      obtain ⟨k, rfl, hk⟩ := numB_nat h.2
      have := (picB_sq (nameR_pic h.1 hk)).2.1
      omega
  · intro h; rw [nameR_no h]; rfl
/-- The name draws the set that its picture draws. -/
theorem name_draws {s : List (List Int × Int)} {k : Nat} (h : sysB s = true) (hk : k < s.length) : sameSetB (solL s) k (nameR s k) 0 = true := by
  rw [nameR_yes h hk]; exact same_draws (name_node h hk)
theorem name_same {s : List (List Int × Int)} {a b : Nat} (h : sysB s = true) (ha : a < s.length) (hb : b < s.length) : decide (nameR s a = nameR s b) = alikeB s a b := by
  rw [nameR_yes h ha, nameR_yes h hb, same_least (name_node h ha) (name_node h hb)]
  unfold alikeB
  rw [h, numB_of ha, numB_of hb, Bool.eq_iff_iff, sameSetB_iff (name_node h ha) (name_node h hb)]
  rw [← simB_iff (by rw [solL_len]; omega) (by rw [solL_len]; omega)]
  simp
theorem alike_swap {s : List (List Int × Int)} {a b : Int} : alikeB s a b = alikeB s b a := by
  unfold alikeB
  have : simB (solL s) a.toNat b.toNat = simB (solL s) b.toNat a.toNat := left_symm _ _ _ _
  rw [this]
  cases sysB s <;> cases numB s a <;> cases numB s b <;> rfl
theorem alike_sent {s : List (List Int × Int)} {a b : Nat} (h : sysB s = true) (ha : a < s.length) (hb : b < s.length) (e : s.getD a ([], 0) = s.getD b ([], 0)) : alikeB s a b = true := by
  have := sol_alike ha hb e
  unfold alikeB
  rw [h, numB_of ha, numB_of hb, Int.toNat_natCast, Int.toNat_natCast, (simB_iff (by rw [solL_len]; omega) (by rw [solL_len]; omega)).2 this]; rfl
/-- Sets that are a solution are those of the names. -/
theorem sol_names {s : List (List Int × Int)} {P : Nat → List (List Int)} {nd : Nat → Nat} (hs : sysB s = true) (h : Sol s P nd) (hn : ∀ k, k < s.length → nodeB (P k) (nd k) = true) {k : Nat} (hk : k < s.length) : sameSetB (P k) (nd k) (nameR s k) 0 = true := by
  have hlt : ∀ k, k < s.length → nd k < (P k).length := fun k hk => by
    obtain ⟨i, e, hi, _⟩ := nodeB_nat (hn k hk)
    omega
  have h1 := sol_unique h hlt hk
  have n1 := node0 (nameR_pic hs hk)
  have h2 := (sameSetB_iff (q := nameR s k) (j := 0) (name_node hs hk) n1).1 (name_draws hs hk)
  exact (sameSetB_iff (q := nameR s k) (j := 0) (hn k hk) n1).2 (h1.trans h2)
/-! ### systems of pictures -/
theorem sysOf_name {p : List (List Int)} (hs : Sq p) {k m : Nat} (hk : k < p.length) (hm : m < p.length) : nameB (sysOfL p) k m = arr p k m := by
  unfold nameB sysOfL arr
  simp [List.getD, hk]
theorem sysOf_code {p : List (List Int)} {k : Nat} : codeY (sysOfL p) k = 0 := by
  unfold codeY sysOfL
  by_cases hk : k < p.length
  · simp [List.getD, hk]
  · simp [List.getD, hk]
theorem sysOf_sol {p : List (List Int)} (hs : Sq p) : Sol (sysOfL p) (fun _ => p) (fun k => k) := by
  intro k hk
  rw [sysOfL_len] at hk ⊢
  refine ⟨fun v hv => .inl ⟨v, hv.1, ?_, Same.refl hv.1⟩, fun m hm hb => ⟨m, ⟨hm, ?_⟩, Same.refl hm⟩, fun h => ?_, fun h => ?_⟩
  · rw [sysOf_name hs hk hv.1]; exact hv.2
  · rw [sysOf_name hs hk hm] at hb; exact hb
  · rw [sysOf_code] at h; omega
  · rw [sysOf_code] at h; omega
theorem sysOf_sys {p : List (List Int)} (h : sysOfB p = true) : sysB (sysOfL p) = true := by
  unfold sysOfB at h
  simp only [Bool.and_eq_true, decide_eq_true_eq] at h
  obtain ⟨hs, h1, h5⟩ := picB_sq h.1
  unfold sysB
  rw [sysOfL_len, decide_eq_true (by omega), decide_eq_true (by omega), Bool.and_true, Bool.and_true]
  unfold saidsB
  rw [List.all_eq_true]
  intro x hx
  unfold sysOfL at hx
  obtain ⟨r, hr, rfl⟩ := List.mem_map.1 hx
  obtain ⟨k, hk, rfl⟩ := List.getElem_of_mem hr
  have := hs.row k hk
  unfold saidB
  simp [this.1, this.2]
theorem sysOf_same {p : List (List Int)} {k : Nat} (h : sysOfB p = true) (hk : k < p.length) : sameSetB p k (nameR (sysOfL p) k) 0 = true := by
  have hp : picB p = true := by unfold sysOfB at h; simp only [Bool.and_eq_true] at h; exact h.1
  have hs := (picB_sq hp).1
  refine sol_names (P := fun _ => p) (nd := fun k => k) (sysOf_sys h) (sysOf_sol hs) (fun j hj => ?_) (by rw [sysOfL_len]; exact hk)
  rw [sysOfL_len] at hj
  unfold nodeB
  rw [hp, decide_eq_true (by omega), decide_eq_true (by omega)]; rfl
end Go.Hyp
namespace Go.Hyp
open Go.RowKit Go.Deep
/-- What a sentence tells: pictures and nodes; of its names below k, and of its code. -/
def dueD (names : List Int) (PL : List (List (List Int))) (NL : List Int) (k : Nat) : List (List (List Int) × Nat) :=
  ((List.range k).filter fun m => names.getD m 0 == 1).map fun m => (PL.getD m [], (NL.getD m 0).toNat)
def codeL (c : Int) : List Int := if c = 1 then [0] else if c = 2 then [1] else if c = 3 then [0, 1] else []
def cPic (m : Int) : List (List Int) := if m = 0 then pic0 else pic1
def codeD (c : Int) : List (List (List Int) × Nat) := (codeL c).map fun m => (cPic m, 0)
def metB (p : List (List Int)) (v : Nat) (d : List (List Int) × Nat) : Bool := sameB p v d.1 d.2
/-- The members of a node are just those that are due. -/
def metD (p : List (List Int)) (i : Nat) (D : List (List (List Int) × Nat)) : Bool :=
  (arrL p i p.length).all (fun v => D.any fun d => metB p v.toNat d) && D.all fun d => (arrL p i p.length).any fun v => metB p v.toNat d
def dueOf (x : List Int × Int) (PL : List (List (List Int))) (NL : List Int) : List (List (List Int) × Nat) := dueD x.1 PL NL x.1.length ++ codeD x.2
def solB (s : List (List Int × Int)) (PL : List (List (List Int))) (NL : List Int) : Bool :=
  (sysB s && (decide (PL.length = s.length) && decide (NL.length = s.length))) && ((List.range s.length).all (fun k => nodeB (PL.getD k []) (NL.getD k 0)) && (List.range s.length).all fun k => metD (PL.getD k []) (NL.getD k 0).toNat (dueOf (s.getD k ([], 0)) PL NL))
theorem dueD_succ (names : List Int) (PL : List (List (List Int))) (NL : List Int) (k : Nat) : dueD names PL NL (k + 1) = dueD names PL NL k ++ (if (names.getD k 0 == 1) = true then [(PL.getD k [], (NL.getD k 0).toNat)] else []) := by
  unfold dueD
  rw [List.range_succ, List.filter_append, List.map_append]
  cases h : (names.getD k 0 == 1)
  · rw [List.filter_cons_of_neg (by rw [h]; decide)]; rfl
  · rw [List.filter_cons_of_pos (by rw [h])]; rfl
theorem dueD_mem {names : List Int} {PL : List (List (List Int))} {NL : List Int} {k : Nat} {d : List (List Int) × Nat} : d ∈ dueD names PL NL k ↔ ∃ m, m < k ∧ (names.getD m 0 == 1) = true ∧ d = (PL.getD m [], (NL.getD m 0).toNat) := by
  unfold dueD
  simp only [List.mem_map, List.mem_filter, List.mem_range]
  constructor
  · rintro ⟨m, ⟨h1, h2⟩, rfl⟩; exact ⟨m, h1, h2, rfl⟩
  · rintro ⟨m, h1, h2, rfl⟩; exact ⟨m, ⟨h1, h2⟩, rfl⟩
theorem dueD_le (names : List Int) (PL : List (List (List Int))) (NL : List Int) (k : Nat) : (dueD names PL NL k).length ≤ k := by
  unfold dueD
  rw [List.length_map]
  exact Nat.le_trans (List.length_filter_le _ _) (by simp)
theorem codeL_le (c : Int) : (codeL c).length ≤ 2 := by
  unfold codeL; split; simp; split; simp; split <;> simp
theorem codeL_at {c : Int} {k : Nat} (h : k < (codeL c).length) : (codeL c)[k] = 0 ∨ (codeL c)[k] = 1 := by
  have h1 := List.getElem_mem h
  have key : ∀ x ∈ codeL c, x = 0 ∨ x = 1 := by
    intro x hx
    unfold codeL at hx
    split at hx
    · simp at hx; exact .inl hx
    · split at hx
      · simp at hx; exact .inr hx
      · split at hx
        · simp at hx; exact hx
        · simp at hx
  exact key _ h1
theorem codeD_len (c : Int) : (codeD c).length = (codeL c).length := by unfold codeD; rw [List.length_map]
theorem codeD_mem {c : Int} (h0 : 0 ≤ c) (h3 : c ≤ 3) {d : List (List Int) × Nat} : d ∈ codeD c ↔ (c % 2 = 1 ∧ d = (pic0, 0)) ∨ (c / 2 = 1 ∧ d = (pic1, 0)) := by
  have hc : c = 0 ∨ c = 1 ∨ c = 2 ∨ c = 3 := by omega
  rcases hc with rfl | rfl | rfl | rfl <;> simp [codeD, codeL, cPic]
theorem cPic_sq (m : Int) : Sq (cPic m) ∧ 0 < (cPic m).length ∧ (cPic m).length ≤ 2 := by
  unfold cPic
  split
  · exact ⟨rfl, by decide, by decide⟩
  · exact ⟨rfl, by decide, by decide⟩
/-- What is asked of one name. -/
def SolK (names : List Int) (c : Int) (PL : List (List (List Int))) (NL : List Int) (p : List (List Int)) (i : Nat) : Prop :=
  (∀ v, Mem p i v → (∃ m, m < names.length ∧ (names.getD m 0 == 1) = true ∧ Same p v (PL.getD m []) (NL.getD m 0).toNat) ∨ (c % 2 = 1 ∧ Same p v pic0 0) ∨ (c / 2 = 1 ∧ Same p v pic1 0)) ∧
  (∀ m, m < names.length → (names.getD m 0 == 1) = true → ∃ v, Mem p i v ∧ Same p v (PL.getD m []) (NL.getD m 0).toNat) ∧ (c % 2 = 1 → ∃ v, Mem p i v ∧ Same p v pic0 0) ∧ (c / 2 = 1 → ∃ v, Mem p i v ∧ Same p v pic1 0)
theorem metD_iff {p : List (List Int)} {i : Nat} {D : List (List (List Int) × Nat)} (hD : ∀ d ∈ D, d.2 < d.1.length) : metD p i D = true ↔ (∀ v, Mem p i v → ∃ d ∈ D, Same p v d.1 d.2) ∧ ∀ d ∈ D, ∃ v, Mem p i v ∧ Same p v d.1 d.2 := by
  unfold metD metB
  rw [Bool.and_eq_true, List.all_eq_true, List.all_eq_true]
  constructor
  · rintro ⟨h1, h2⟩
    refine ⟨fun v hv => ?_, fun d hd => ?_⟩
    · have := h1 v (arrL_mem.2 ⟨v, rfl, hv.1, hv.2⟩)
      rw [List.any_eq_true] at this
      obtain ⟨d, hd, hs⟩ := this
      exact ⟨d, hd, (sameB_iff (by simpa using hv.1) (hD d hd)).1 hs⟩
    · have := h2 d hd
      rw [List.any_eq_true] at this
      obtain ⟨x, hx, hs⟩ := this
      obtain ⟨v, rfl, hv, ha⟩ := arrL_mem.1 hx
      exact ⟨v, ⟨hv, ha⟩, (sameB_iff hv (hD d hd)).1 hs⟩
  · rintro ⟨h1, h2⟩
    refine ⟨fun x hx => ?_, fun d hd => ?_⟩
    · obtain ⟨v, rfl, hv, ha⟩ := arrL_mem.1 hx
      obtain ⟨d, hd, hs⟩ := h1 v ⟨hv, ha⟩
      rw [List.any_eq_true]
      exact ⟨d, hd, (sameB_iff hv (hD d hd)).2 hs⟩
    · obtain ⟨v, hv, hs⟩ := h2 d hd
      rw [List.any_eq_true]
      exact ⟨v, arrL_mem.2 ⟨v, rfl, hv.1, hv.2⟩, (sameB_iff hv.1 (hD d hd)).2 hs⟩
theorem due_lt {x : List Int × Int} {PL : List (List (List Int))} {NL : List Int} (hN : ∀ m, m < x.1.length → (NL.getD m 0).toNat < (PL.getD m []).length) : ∀ d ∈ dueOf x PL NL, d.2 < d.1.length := by
  intro d hd
  rcases List.mem_append.1 hd with h | h
  · obtain ⟨m, hm, _, rfl⟩ := dueD_mem.1 h
    exact hN m hm
  · unfold codeD at h
    obtain ⟨m, _, rfl⟩ := List.mem_map.1 h
    exact (cPic_sq m).2.1
theorem solK_iff {x : List Int × Int} {PL : List (List (List Int))} {NL : List Int} {p : List (List Int)} {i : Nat} (h0 : 0 ≤ x.2) (h3 : x.2 ≤ 3) (hN : ∀ m, m < x.1.length → (NL.getD m 0).toNat < (PL.getD m []).length) :
    metD p i (dueOf x PL NL) = true ↔ SolK x.1 x.2 PL NL p i := by
  rw [metD_iff (due_lt hN)]
  unfold SolK dueOf
  simp only [List.mem_append, dueD_mem, codeD_mem h0 h3]
  constructor
  · rintro ⟨h1, h2⟩
    refine ⟨fun v hv => ?_, fun m hm hb => h2 _ (.inl ⟨m, hm, hb, rfl⟩), fun hc => h2 _ (.inr (.inl ⟨hc, rfl⟩)), fun hc => h2 _ (.inr (.inr ⟨hc, rfl⟩))⟩
    obtain ⟨d, h | h | h, hs⟩ := h1 v hv
    · obtain ⟨m, hm, hb, rfl⟩ := h
      exact .inl ⟨m, hm, hb, hs⟩
    · obtain ⟨hc, rfl⟩ := h
      exact .inr (.inl ⟨hc, hs⟩)
    · obtain ⟨hc, rfl⟩ := h
      exact .inr (.inr ⟨hc, hs⟩)
  · rintro ⟨h1, h2, h4, h5⟩
    refine ⟨fun v hv => ?_, fun d hd => ?_⟩
    · rcases h1 v hv with ⟨m, hm, hb, hs⟩ | ⟨hc, hs⟩ | ⟨hc, hs⟩
      · exact ⟨_, .inl ⟨m, hm, hb, rfl⟩, hs⟩
      · exact ⟨_, .inr (.inl ⟨hc, rfl⟩), hs⟩
      · exact ⟨_, .inr (.inr ⟨hc, rfl⟩), hs⟩
    · rcases hd with ⟨m, hm, hb, rfl⟩ | ⟨hc, rfl⟩ | ⟨hc, rfl⟩
      · exact h2 m hm hb
      · exact h4 hc
      · exact h5 hc
/-- What a solution is. -/
theorem solB_iff {s : List (List Int × Int)} {PL : List (List (List Int))} {NL : List Int} : solB s PL NL = true ↔ sysB s = true ∧ PL.length = s.length ∧ NL.length = s.length ∧ (∀ k, k < s.length → nodeB (PL.getD k []) (NL.getD k 0) = true) ∧
    ∀ k (hk : k < s.length), SolK s[k].1 s[k].2 PL NL (PL.getD k []) (NL.getD k 0).toNat := by
  unfold solB
  simp only [Bool.and_eq_true, decide_eq_true_eq, List.all_eq_true, List.mem_range]
  have key : sysB s = true → (∀ k, k < s.length → nodeB (PL.getD k []) (NL.getD k 0) = true) → ∀ k (hk : k < s.length), (metD (PL.getD k []) (NL.getD k 0).toNat (dueOf (s.getD k ([], 0)) PL NL) = true ↔ SolK s[k].1 s[k].2 PL NL (PL.getD k []) (NL.getD k 0).toNat) := by
    intro hs hn k hk
    have h1 := (sysB_at hs).2 k hk
    have e : s.getD k ([], 0) = s[k] := by simp [List.getD, hk]
    rw [e]
    refine solK_iff h1.2.2.1 h1.2.2.2 fun m hm => ?_
    obtain ⟨j, e2, hj, _⟩ := nodeB_nat (hn m (by omega))
    rw [e2, Int.toNat_natCast]
    exact hj
  constructor
  · rintro ⟨⟨h1, h2, h3⟩, h4, h5⟩
    exact ⟨h1, h2, h3, h4, fun k hk => (key h1 h4 k hk).1 (h5 k hk)⟩
  · rintro ⟨h1, h2, h3, h4, h5⟩
    exact ⟨⟨h1, h2, h3⟩, h4, fun k hk => (key h1 h4 k hk).2 (h5 k hk)⟩
theorem solB_sol {s : List (List Int × Int)} {PL : List (List (List Int))} {NL : List Int} (h : solB s PL NL = true) : Sol s (fun k => PL.getD k []) (fun k => (NL.getD k 0).toNat) := by
  obtain ⟨h1, h2, h3, h4, h5⟩ := solB_iff.1 h
  intro k hk
  have h6 := h5 k hk
  have hl := ((sysB_at h1).2 k hk).2.1
  unfold SolK at h6
  have e : s.getD k ([], 0) = s[k] := by simp [List.getD, hk]
  unfold nameB codeY
  rw [e]
  rw [hl] at h6
  exact h6
/-- Sets that are a solution are those of the names. -/
theorem solB_name {s : List (List Int × Int)} {PL : List (List (List Int))} {NL : List Int} (h : solB s PL NL = true) {k : Nat} (hk : k < s.length) : sameSetB (PL.getD k []) (NL.getD k 0) (nameR s k) 0 = true := by
  obtain ⟨h1, h2, h3, h4, h5⟩ := solB_iff.1 h
  have h6 := sol_names (P := fun k => PL.getD k []) (nd := fun k => (NL.getD k 0).toNat) h1 (solB_sol h) (fun k hk => by
    obtain ⟨j, e2, hj, hp⟩ := nodeB_nat (h4 k hk)
    show nodeB (PL.getD k []) (((NL.getD k 0).toNat : Nat) : Int) = true
    rw [e2, Int.toNat_natCast]
    exact nodeB_of hp hj) hk
  obtain ⟨j, e2, hj, hp⟩ := nodeB_nat (h4 k hk)
  have e3 : (((NL.getD k 0).toNat : Nat) : Int) = NL.getD k 0 := by rw [e2, Int.toNat_natCast]
  simp only [e3] at h6
  exact h6
/-- The picture of a system is a solution. -/
theorem solB_self {s : List (List Int × Int)} (h : sysB s = true) {PL : List (List (List Int))} {NL : List Int} (h1 : PL.length = s.length) (h2 : NL.length = s.length) (h3 : ∀ k, k < s.length → PL.getD k [] = solL s) (h4 : ∀ k, k < s.length → NL.getD k 0 = k) : solB s PL NL = true := by
  refine solB_iff.2 ⟨h, h1, h2, fun k hk => by rw [h3 k hk, h4 k hk]; exact name_node h hk, fun k hk => ?_⟩
  have h6 := sol_self s k hk
  have hl := ((sysB_at h).2 k hk).2.1
  have e : s.getD k ([], 0) = s[k] := by simp [List.getD, hk]
  unfold nameB codeY at h6
  rw [e] at h6
  rw [h3 k hk, h4 k hk, Int.toNat_natCast]
  unfold SolK
  rw [hl]
  obtain ⟨g1, g2, g3, g4⟩ := h6
  refine ⟨fun v hv => ?_, fun m hm hb => ?_, g3, g4⟩
  · rcases g1 v hv with ⟨m, hm, hb, hs⟩ | h | h
    · exact .inl ⟨m, hm, hb, by rw [h3 m hm, h4 m hm, Int.toNat_natCast]; exact hs⟩
    · exact .inr (.inl h)
    · exact .inr (.inr h)
  · rw [h3 m hm, h4 m hm, Int.toNat_natCast]
    exact g2 m hm hb
end Go.Hyp
namespace Go.Hyp
open Go.RowKit Go.Deep
/-- The cells of a slice of pictures. -/
def RdIII (w : World) (B C : Nat) (a : Option Addr) (P : List (List (List Int))) : Prop :=
  ∀ i, i < P.length → ∃ b off a' cap, a = some ⟨b, off, none⟩ ∧ B ≤ b ∧ b < C ∧ w.cell? ⟨b, off + i, none⟩ = some (.slice a' (P.getD i []).length cap) ∧ RdII w B C a' (P.getD i []) ∧ (P.getD i []).length ≤ maxLen
theorem RdIII.agr {w w' : World} {B C : Nat} {a : Option Addr} {P : List (List (List Int))} (h : RdIII w B C a P) (k : Agr B C w w') : RdIII w' B C a P := by
  intro i hi
  obtain ⟨b, off, a', cap, e, h1, h2, hc, hr, hl⟩ := h i hi
  exact ⟨b, off, a', cap, e, h1, h2, by rw [World.cell?_of_block (w := w) (k b h1 h2)]; exact hc, hr.agr k, hl⟩
theorem RdIII.mono {w : World} {B C B' C' : Nat} {a : Option Addr} {P : List (List (List Int))} (h : RdIII w B C a P) (h1 : B' ≤ B) (h2 : C ≤ C') : RdIII w B' C' a P := by
  intro i hi
  obtain ⟨b, off, a', cap, e, g1, g2, hc, hr, hl⟩ := h i hi
  exact ⟨b, off, a', cap, e, by omega, by omega, hc, hr.mono h1 h2, hl⟩
theorem RdIII.below {w w' : World} {B C D : Nat} {a : Option Addr} {P : List (List (List Int))} (h : RdIII w B C a P) (k : Below D w w') (hC : C ≤ D) : RdIII w' B C a P := h.agr (agr_below k hC)
/-- Two lists that grow: pictures (headers of pictures that lie elsewhere) and nodes. K: the blocks that stay. -/
structure DueSt (w : World) (E I : Nat) (K : Nat → Prop) (x : Option Addr) (c : Nat) (y : Option Addr) (d : Nat) (Q : List (List (List Int))) (A : List Int) : Prop where
  q : ∃ F, OwV w E 0 w.heap.size x c Q.length F ∧ ∀ k, k < Q.length → ∃ a' c' B' C', F k = .slice a' (Q.getD k []).length c' ∧ RdII w B' C' a' (Q.getD k []) ∧ C' ≤ w.heap.size ∧ ∀ b, B' ≤ b → b < C' → blockOf x ≠ some b ∧ blockOf y ≠ some b
  n : OwI w I 0 w.heap.size y d A
  dis : ∀ b, blockOf x = some b → blockOf y ≠ some b
  kx : ∀ b, blockOf x = some b → ¬ K b
  ky : ∀ b, blockOf y = some b → ¬ K b
  kw : ∀ b, K b → b < w.heap.size
theorem DueSt.below {w w' : World} {E I : Nat} {K : Nat → Prop} {x y : Option Addr} {c d : Nat} {Q : List (List (List Int))} {A : List Int} (h : DueSt w E I K x c y d Q A) (k : Below w.heap.size w w') : DueSt w' E I K x c y d Q A := by
  obtain ⟨⟨F, h1, h2⟩, h3, h4, h5, h6, h7⟩ := h
  have hz : w.heap.size ≤ w'.heap.size := k.size
  refine ⟨⟨F, (h1.agr (agr_below k (Nat.le_refl _))).mono (Nat.le_refl _) hz, fun j hj => ?_⟩, (h3.below k (Nat.le_refl _)).mono (Nat.le_refl _) hz, h4, h5, h6, fun b hb => Nat.lt_of_lt_of_le (h7 b hb) hz⟩
  obtain ⟨a', c', B', C', e, hr, hC, hb⟩ := h2 j hj
  exact ⟨a', c', B', C', e, hr.below k hC, by omega, hb⟩
theorem DueSt.rek {w : World} {E I : Nat} {K K' : Nat → Prop} {x y : Option Addr} {c d : Nat} {Q : List (List (List Int))} {A : List Int} (h : DueSt w E I K x c y d Q A) (hx : ∀ b, blockOf x = some b → ¬ K' b) (hy : ∀ b, blockOf y = some b → ¬ K' b) (hw : ∀ b, K' b → b < w.heap.size) : DueSt w E I K' x c y d Q A :=
  ⟨h.q, h.n, h.dis, hx, hy, hw⟩
theorem OwV.block_lt {w : World} {E B C k : Nat} {a : Option Addr} {cap n : Nat} {f : Nat → Value} (h : OwV w E B C a cap n f) (hk : blockOf a = some k) : k < C := by
  rcases h with ⟨rfl, _⟩ | ⟨g, F, rfl, _, h2, _⟩
  · cases hk
  · have h9 : g = k := Option.some.inj hk
    omega
theorem DueSt.x_lt {w : World} {E I : Nat} {K : Nat → Prop} {x y : Option Addr} {c d : Nat} {Q : List (List (List Int))} {A : List Int} (h : DueSt w E I K x c y d Q A) {b : Nat} (hb : blockOf x = some b) : b < w.heap.size := by
  obtain ⟨⟨F, h1, _⟩, _⟩ := h
  exact h1.block_lt hb
theorem DueSt.y_lt {w : World} {E I : Nat} {K : Nat → Prop} {x y : Option Addr} {c d : Nat} {Q : List (List (List Int))} {A : List Int} (h : DueSt w E I K x c y d Q A) {b : Nat} (hb : blockOf y = some b) : b < w.heap.size := (h.n.block_in hb).2
theorem DueSt.start (w : World) (E I : Nat) {K : Nat → Prop} (hK : ∀ b, K b → b < w.heap.size) : DueSt ((w.alloc (.cells #[] E)).alloc (.cells #[] I)) E I K (some ⟨w.heap.size, 0, none⟩) 0 (some ⟨w.heap.size + 1, 0, none⟩) 0 [] [] := by
  have hz : (w.alloc (.cells #[] E)).heap.size = w.heap.size + 1 := by simp
  have hz2 : ((w.alloc (.cells #[] E)).alloc (.cells #[] I)).heap.size = w.heap.size + 2 := by simp
  refine ⟨⟨fun _ => undef, .inr ⟨w.heap.size, fun _ => undef, rfl, Nat.zero_le _, by omega, ?_, Nat.le_refl _, Nat.zero_le _, fun i hi => absurd hi (Nat.not_lt_zero _)⟩, fun k hk => absurd hk (Nat.not_lt_zero _)⟩, ?_, ?_, ?_, ?_, fun b hb => by have := hK b hb; omega⟩
  · exact (World.rowIs_alloc w _ _ _ (fun i hi => absurd hi (Nat.not_lt_zero _))).of_block (Below.heap_alloc _ _ _ (by omega))
  · have h9 := OwI_empty (w.alloc (.cells #[] E)) I
    rw [hz] at h9
    exact h9.mono (Nat.zero_le _) (by omega)
  · intro b hb hb'
    have h8 : w.heap.size = b := Option.some.inj hb
    have h9 : w.heap.size + 1 = b := Option.some.inj hb'
    omega
  · intro b hb hk
    have h8 : w.heap.size = b := Option.some.inj hb
    have := hK b hk; omega
  · intro b hb hk
    have h8 : w.heap.size + 1 = b := Option.some.inj hb
    have := hK b hk; omega
/-- The pictures' list has grown. -/
theorem DueSt.pushQ {w w' : World} {E I : Nat} {K : Nat → Prop} {x y x1 : Option Addr} {c d c1 : Nat} {Q : List (List (List Int))} {A : List Int} {F : Nat → Value} {o : Obj} {q : List (List Int)} {a' : Option Addr} {c' B' C' : Nat}
    (h : DueSt w E I K x c y d Q A) (hF : ∀ k, k < Q.length → ∃ a' c' B' C', F k = .slice a' (Q.getD k []).length c' ∧ RdII w B' C' a' (Q.getD k []) ∧ C' ≤ w.heap.size ∧ ∀ b, B' ≤ b → b < C' → blockOf x ≠ some b ∧ blockOf y ≠ some b)
    (hv : OwV w' E 0 w'.heap.size x1 c1 (Q.length + 1) (fun i => if i < Q.length then F i else [Value.slice a' q.length c'].getD (i - Q.length) undef))
    (hg : (w.alloc o).grownBy w' (blockOf x)) (hb : blockOf x1 = blockOf x ∨ blockOf x1 = some (w.alloc o).heap.size)
    (hr : RdII w B' C' a' q) (hC : C' ≤ w.heap.size) (hd : ∀ b, B' ≤ b → b < C' → blockOf x ≠ some b ∧ blockOf y ≠ some b) :
    DueSt w' E I K x1 c1 y d (Q ++ [q]) A ∧ Chg (fun b => blockOf x = some b) w w' := by
  have hc : Chg (fun b => blockOf x = some b) w w' := ((Chg.refl _ w).alloc o).grown hg (fun k hk => .inl hk)
  have hz : w.heap.size ≤ w'.heap.size := hc.size
  have ha : (w.alloc o).heap.size = w.heap.size + 1 := by simp
  have nx : ∀ b, b < w.heap.size → blockOf x1 = some b → blockOf x = some b := fun b hlt hb' => by
    rcases hb with h1 | h1
    · rw [← h1]; exact hb'
    · rw [h1] at hb'; injection hb' with hb'; omega
  have nb : ∀ b, blockOf x1 = some b → blockOf x = some b ∨ w.heap.size ≤ b := fun b hb' => by
    rcases Nat.lt_or_ge b w.heap.size with hlt | hge
    · exact .inl (nx b hlt hb')
    · exact .inr hge
  have agr : ∀ {B C : Nat}, C ≤ w.heap.size → (∀ b, B ≤ b → b < C → blockOf x ≠ some b) → Agr B C w w' := fun hC hS => hc.agr hC hS
  refine ⟨⟨⟨_, by rw [List.length_append]; exact hv, fun k hk => ?_⟩, ?_, fun b hb' => ?_, fun b hb' => ?_, h.ky, fun b hb' => Nat.lt_of_lt_of_le (h.kw b hb') hz⟩, hc⟩
  · rw [List.length_append, List.length_singleton] at hk
    by_cases hlt : k < Q.length
    · obtain ⟨a2, c2, B2, C2, e, hr2, hC2, hd2⟩ := hF k hlt
      have eg : (Q ++ [q]).getD k [] = Q.getD k [] := by simp [List.getD, List.getElem?_append_left hlt]
      rw [eg]
      refine ⟨a2, c2, B2, C2, by show (if k < Q.length then _ else _) = _; rw [if_pos hlt]; exact e, hr2.agr (agr hC2 fun b h1 h2 => (hd2 b h1 h2).1), by omega, fun b h1 h2 => ⟨fun hb' => (hd2 b h1 h2).1 (nx b (by omega) hb'), (hd2 b h1 h2).2⟩⟩
    · obtain rfl : k = Q.length := by omega
      have eg : (Q ++ [q]).getD Q.length [] = q := by simp [List.getD]
      rw [eg]
      refine ⟨a', c', B', C', by show (if Q.length < Q.length then _ else _) = _; rw [if_neg (Nat.lt_irrefl _), Nat.sub_self]; rfl, hr.agr (agr hC fun b h1 h2 => (hd b h1 h2).1), by omega, fun b h1 h2 => ⟨fun hb' => (hd b h1 h2).1 (nx b (by omega) hb'), (hd b h1 h2).2⟩⟩
  · rcases h.n with ⟨e1, e2, e3⟩ | ⟨g, f, e1, h1, h2, h3⟩
    · exact .inl ⟨e1, e2, e3⟩
    · exact .inr ⟨g, f, e1, h1, by omega, h3.1.of_block (hc.block g h2 (fun hx => h.dis g hx (by rw [e1]; rfl))), h3.2⟩
  · rcases nb b hb' with h1 | h1
    · exact h.dis b h1
    · intro hy
      have := h.y_lt hy; omega
  · rcases nb b hb' with h1 | h1
    · exact h.kx b h1
    · intro hk
      have := h.kw b hk; omega
/-- The nodes' list has grown. -/
theorem DueSt.pushA {w w' : World} {E I : Nat} {K : Nat → Prop} {x y : Option Addr} {c d d1 g : Nat} {Q : List (List (List Int))} {A : List Int} {o : Obj} {v : Int}
    (h : DueSt w E I K x c y d Q A) (hv : OwI w' I 0 w'.heap.size (some ⟨g, 0, none⟩) d1 (A ++ [v])) (hg : (w.alloc o).grownBy w' (blockOf y)) (hb : blockOf y = some g ∨ g = (w.alloc o).heap.size) :
    DueSt w' E I K x c (some ⟨g, 0, none⟩) d1 Q (A ++ [v]) ∧ Chg (fun b => blockOf y = some b) w w' := by
  have hc : Chg (fun b => blockOf y = some b) w w' := ((Chg.refl _ w).alloc o).grown hg (fun k hk => .inl hk)
  have hz : w.heap.size ≤ w'.heap.size := hc.size
  have ha : (w.alloc o).heap.size = w.heap.size + 1 := by simp
  have nb : blockOf y = some g ∨ w.heap.size ≤ g := by
    rcases hb with h1 | h1
    · exact .inl h1
    · exact .inr (by omega)
  have ny : ∀ b, b < w.heap.size → some g = some b → blockOf y = some b := fun b hlt hb' => by
    injection hb' with hb'
    rcases nb with h1 | h1
    · rw [h1, hb']
    · omega
  obtain ⟨F, hF, hE⟩ := h.q
  refine ⟨⟨⟨F, ?_, fun k hk => ?_⟩, hv, fun b hb' hy => ?_, h.kx, fun b hy hk => ?_, fun b hb' => Nat.lt_of_lt_of_le (h.kw b hb') hz⟩, hc⟩
  · rcases hF with h1 | ⟨g', f, e1, h1, h2, h3, h4⟩
    · exact .inl h1
    · exact .inr ⟨g', f, e1, h1, by omega, h3.of_block (hc.block g' h2 (h.dis g' (by rw [e1]; rfl))), h4⟩
  · obtain ⟨a2, c2, B2, C2, e, hr2, hC2, hd2⟩ := hE k hk
    exact ⟨a2, c2, B2, C2, e, hr2.agr (hc.agr hC2 fun b h1 h2 => (hd2 b h1 h2).2), by omega, fun b h1 h2 => ⟨(hd2 b h1 h2).1, fun hb' => (hd2 b h1 h2).2 (ny b (by omega) hb')⟩⟩
  · have hlt := h.x_lt hb'
    exact h.dis b hb' (ny b hlt hy)
  · have hlt := h.kw b hk
    exact h.ky b (ny b hlt hy) hk
/-- What stands in the two lists. -/
theorem DueSt.rdA {w : World} {E I : Nat} {K : Nat → Prop} {x y : Option Addr} {c d : Nat} {Q : List (List (List Int))} {A : List Int} (h : DueSt w E I K x c y d Q A) : RdI w 0 w.heap.size y A := h.n.rd
theorem DueSt.atQ {w : World} {E I : Nat} {K : Nat → Prop} {x y : Option Addr} {c d : Nat} {Q : List (List (List Int))} {A : List Int} (h : DueSt w E I K x c y d Q A) (k : Nat) (hk : k < Q.length) :
    ∃ g a' c' B' C', x = some ⟨g, 0, none⟩ ∧ g < w.heap.size ∧ w.cell? ⟨g, k, none⟩ = some (.slice a' (Q.getD k []).length c') ∧ RdII w B' C' a' (Q.getD k []) ∧ C' ≤ w.heap.size := by
  obtain ⟨F, hF, hE⟩ := h.q
  obtain ⟨a', c', B', C', e, hr, hC, _⟩ := hE k hk
  rcases hF with ⟨_, h0, _⟩ | ⟨g, f, e1, _, h2, h3, h4, _, h5⟩
  · omega
  · exact ⟨g, a', c', B', C', e1, h2, by rw [h3.cell (by omega), h5 k hk, e], hr, hC⟩
section
variable {P : Program}
/-- append of a picture. -/
theorem wpList_appQ {T E I bytes : Nat} {z : Value} (hT : P.underlying T = some (.slice E)) (hE : (P.info? E).map (fun i => (i.zero, i.size, i.bytes)) = some (some z, 1, bytes)) (hz1 : z.cells.size = 1) (hby : bytes ≤ 24)
    (w : World) {ops : Array Oper} {rest : List Oper} {o : Oper} {a : Act} {R : Exit → Act → World → Prop} (hgd : o.guard = none) (s x : Operand) (ho : o.op = .call { callee := .builtin .append, args := #[s, x], argTypes := #[T, T] })
    (K : Nat → Prop) (x0 : Option Addr) (c0 : Nat) (y0 : Option Addr) (d0 : Nat) (Q : List (List (List Int))) (A : List Int) (hs : a.eval s = .slice x0 Q.length c0) (hst : DueSt w E I K x0 c0 y0 d0 Q A) (a' : Option Addr) (c' : Nat) (q : List (List Int))
    (hx : a.eval x = .slice (some ⟨w.heap.size, 0, none⟩) 1 1) (B' C' : Nat) (hr : RdII w B' C' a' q) (hC : C' ≤ w.heap.size) (hd : ∀ b, B' ≤ b → b < C' → blockOf x0 ≠ some b ∧ blockOf y0 ≠ some b) (hlen : Q.length ≤ 1048576)
    (h : ∀ x1 c1 w', DueSt w' E I K x1 c1 y0 d0 (Q ++ [q]) A → Chg (fun b => blockOf x0 = some b) w w' → wpList P ops R rest (a.put o.dst (.slice x1 (Q.length + 1) c1)) w') :
    wpList P ops R (o :: rest) a (w.alloc (.cells #[.slice a' q.length c'] E)) := by
  obtain ⟨F, hF, hEE⟩ := hst.q
  have hF2 : OwV (w.alloc (.cells #[.slice a' q.length c'] E)) E 0 w.heap.size x0 c0 Q.length F := hF.agr ((Agr.refl _ _ _).alloc (Nat.le_refl _) _)
  refine wpList_plain hgd fun L hL => wp_appVs hT hE hz1 hby _ s x ho 0 w.heap.size x0 c0 Q.length F hs hF2 (Nat.zero_le _) (some ⟨w.heap.size, 0, none⟩) 1 1 [.slice a' q.length c'] hx rfl ?_ (fun e => by cases e) (by simp [Value.oneCell']) (by omega) ?_
  · intro ad had j u hu
    injection had with had
    subst had
    match j, hu with
    | 0, hu => injection hu with hu; subst hu; exact new_cellE _ _ _ rfl
  · intro x1 c1 w' h2 h3 h4
    obtain ⟨h5, h6⟩ := hst.pushQ hEE h2 h3 h4 hr hC hd
    exact hL _ _ (h x1 c1 w' h5 h6)
/-- append of a node. -/
theorem wpList_appA {T E I : Nat} (hT : P.underlying T = some (.slice I)) (hE : (P.info? I).map (fun i => (i.zero, i.size, i.bytes)) = some (some (.int .i64 0), 1, 8))
    (w : World) {ops : Array Oper} {rest : List Oper} {o : Oper} {a : Act} {R : Exit → Act → World → Prop} (hgd : o.guard = none) (s x : Operand) (ho : o.op = .call { callee := .builtin .append, args := #[s, x], argTypes := #[T, T] })
    (K : Nat → Prop) (x0 : Option Addr) (c0 : Nat) (y0 : Option Addr) (d0 : Nat) (Q : List (List (List Int))) (A : List Int) (hs : a.eval s = .slice y0 A.length d0) (hst : DueSt w E I K x0 c0 y0 d0 Q A) (v : Int)
    (hx : a.eval x = .slice (some ⟨w.heap.size, 0, none⟩) 1 1) (hlen : A.length ≤ 1048576)
    (h : ∀ y1 d1 w', DueSt w' E I K x0 c0 y1 d1 Q (A ++ [v]) → Chg (fun b => blockOf y0 = some b) w w' → wpList P ops R rest (a.put o.dst (.slice y1 (A.length + 1) d1)) w') :
    wpList P ops R (o :: rest) a (w.alloc (.cells #[.int .i64 v] I)) := by
  refine wpList_appI hT hE _ hgd s x ho 0 w.heap.size y0 d0 A hs (hst.n.agr ((Agr.refl _ _ _).alloc (Nat.le_refl _) _)) (Nat.zero_le _) ⟨w.heap.size, 0, none⟩ v hx (new_cellE _ _ _ rfl) hlen ?_
  intro g d1 w' hown hgrow hat hg
  obtain ⟨h5, h6⟩ := hst.pushA hown hgrow hat
  exact h _ d1 w' h5 h6
end
end Go.Hyp
namespace Go.Hyp
open Go.RowKit Go.Deep
/-- Two lists that grow: pictures (headers of pictures that lie elsewhere) and nodes. K: the blocks that stay. -/
structure DueLo (D : Nat) (w : World) (E I : Nat) (K : Nat → Prop) (x : Option Addr) (c : Nat) (y : Option Addr) (d : Nat) (Q : List (List (List Int))) (A : List Int) : Prop where
  q : ∃ F, OwV w E 0 w.heap.size x c Q.length F ∧ ∀ k, k < Q.length → ∃ a' c' B' C', F k = .slice a' (Q.getD k []).length c' ∧ RdII w B' C' a' (Q.getD k []) ∧ C' ≤ w.heap.size ∧ D ≤ B' ∧ ∀ b, B' ≤ b → b < C' → blockOf x ≠ some b ∧ blockOf y ≠ some b
  n : OwI w I 0 w.heap.size y d A
  dis : ∀ b, blockOf x = some b → blockOf y ≠ some b
  kx : ∀ b, blockOf x = some b → ¬ K b
  ky : ∀ b, blockOf y = some b → ¬ K b
  kw : ∀ b, K b → b < w.heap.size
theorem DueLo.below {D : Nat} {w w' : World} {E I : Nat} {K : Nat → Prop} {x y : Option Addr} {c d : Nat} {Q : List (List (List Int))} {A : List Int} (h : DueLo D w E I K x c y d Q A) (k : Below w.heap.size w w') : DueLo D w' E I K x c y d Q A := by
  obtain ⟨⟨F, h1, h2⟩, h3, h4, h5, h6, h7⟩ := h
  have hz : w.heap.size ≤ w'.heap.size := k.size
  refine ⟨⟨F, (h1.agr (agr_below k (Nat.le_refl _))).mono (Nat.le_refl _) hz, fun j hj => ?_⟩, (h3.below k (Nat.le_refl _)).mono (Nat.le_refl _) hz, h4, h5, h6, fun b hb => Nat.lt_of_lt_of_le (h7 b hb) hz⟩
  obtain ⟨a', c', B', C', e, hr, hC, hb⟩ := h2 j hj
  exact ⟨a', c', B', C', e, hr.below k hC, by omega, hb⟩
theorem DueLo.rek {D : Nat} {w : World} {E I : Nat} {K K' : Nat → Prop} {x y : Option Addr} {c d : Nat} {Q : List (List (List Int))} {A : List Int} (h : DueLo D w E I K x c y d Q A) (hx : ∀ b, blockOf x = some b → ¬ K' b) (hy : ∀ b, blockOf y = some b → ¬ K' b) (hw : ∀ b, K' b → b < w.heap.size) : DueLo D w E I K' x c y d Q A :=
  ⟨h.q, h.n, h.dis, hx, hy, hw⟩
theorem DueLo.x_lt {D : Nat} {w : World} {E I : Nat} {K : Nat → Prop} {x y : Option Addr} {c d : Nat} {Q : List (List (List Int))} {A : List Int} (h : DueLo D w E I K x c y d Q A) {b : Nat} (hb : blockOf x = some b) : b < w.heap.size := by
  obtain ⟨⟨F, h1, _⟩, _⟩ := h
  exact h1.block_lt hb
theorem DueLo.y_lt {D : Nat} {w : World} {E I : Nat} {K : Nat → Prop} {x y : Option Addr} {c d : Nat} {Q : List (List (List Int))} {A : List Int} (h : DueLo D w E I K x c y d Q A) {b : Nat} (hb : blockOf y = some b) : b < w.heap.size := (h.n.block_in hb).2
theorem DueLo.start (D : Nat) (w : World) (E I : Nat) {K : Nat → Prop} (hK : ∀ b, K b → b < w.heap.size) : DueLo D ((w.alloc (.cells #[] E)).alloc (.cells #[] I)) E I K (some ⟨w.heap.size, 0, none⟩) 0 (some ⟨w.heap.size + 1, 0, none⟩) 0 [] [] := by
  have hz : (w.alloc (.cells #[] E)).heap.size = w.heap.size + 1 := by simp
  have hz2 : ((w.alloc (.cells #[] E)).alloc (.cells #[] I)).heap.size = w.heap.size + 2 := by simp
  refine ⟨⟨fun _ => undef, .inr ⟨w.heap.size, fun _ => undef, rfl, Nat.zero_le _, by omega, ?_, Nat.le_refl _, Nat.zero_le _, fun i hi => absurd hi (Nat.not_lt_zero _)⟩, fun k hk => absurd hk (Nat.not_lt_zero _)⟩, ?_, ?_, ?_, ?_, fun b hb => by have := hK b hb; omega⟩
  · exact (World.rowIs_alloc w _ _ _ (fun i hi => absurd hi (Nat.not_lt_zero _))).of_block (Below.heap_alloc _ _ _ (by omega))
  · have h9 := OwI_empty (w.alloc (.cells #[] E)) I
    rw [hz] at h9
    exact h9.mono (Nat.zero_le _) (by omega)
  · intro b hb hb'
    have h8 : w.heap.size = b := Option.some.inj hb
    have h9 : w.heap.size + 1 = b := Option.some.inj hb'
    omega
  · intro b hb hk
    have h8 : w.heap.size = b := Option.some.inj hb
    have := hK b hk; omega
  · intro b hb hk
    have h8 : w.heap.size + 1 = b := Option.some.inj hb
    have := hK b hk; omega
/-- The pictures' list has grown. -/
theorem DueLo.pushQ {D : Nat} {w w' : World} {E I : Nat} {K : Nat → Prop} {x y x1 : Option Addr} {c d c1 : Nat} {Q : List (List (List Int))} {A : List Int} {F : Nat → Value} {o : Obj} {q : List (List Int)} {a' : Option Addr} {c' B' C' : Nat}
    (h : DueLo D w E I K x c y d Q A) (hF : ∀ k, k < Q.length → ∃ a' c' B' C', F k = .slice a' (Q.getD k []).length c' ∧ RdII w B' C' a' (Q.getD k []) ∧ C' ≤ w.heap.size ∧ D ≤ B' ∧ ∀ b, B' ≤ b → b < C' → blockOf x ≠ some b ∧ blockOf y ≠ some b)
    (hv : OwV w' E 0 w'.heap.size x1 c1 (Q.length + 1) (fun i => if i < Q.length then F i else [Value.slice a' q.length c'].getD (i - Q.length) undef))
    (hg : (w.alloc o).grownBy w' (blockOf x)) (hb : blockOf x1 = blockOf x ∨ blockOf x1 = some (w.alloc o).heap.size)
    (hr : RdII w B' C' a' q) (hC : C' ≤ w.heap.size) (hDB : D ≤ B') (hd : ∀ b, B' ≤ b → b < C' → blockOf x ≠ some b ∧ blockOf y ≠ some b) :
    DueLo D w' E I K x1 c1 y d (Q ++ [q]) A ∧ Chg (fun b => blockOf x = some b) w w' := by
  have hc : Chg (fun b => blockOf x = some b) w w' := ((Chg.refl _ w).alloc o).grown hg (fun k hk => .inl hk)
  have hz : w.heap.size ≤ w'.heap.size := hc.size
  have ha : (w.alloc o).heap.size = w.heap.size + 1 := by simp
  have nx : ∀ b, b < w.heap.size → blockOf x1 = some b → blockOf x = some b := fun b hlt hb' => by
    rcases hb with h1 | h1
    · rw [← h1]; exact hb'
    · rw [h1] at hb'; injection hb' with hb'; omega
  have nb : ∀ b, blockOf x1 = some b → blockOf x = some b ∨ w.heap.size ≤ b := fun b hb' => by
    rcases Nat.lt_or_ge b w.heap.size with hlt | hge
    · exact .inl (nx b hlt hb')
    · exact .inr hge
  have agr : ∀ {B C : Nat}, C ≤ w.heap.size → (∀ b, B ≤ b → b < C → blockOf x ≠ some b) → Agr B C w w' := fun hC hS => hc.agr hC hS
  refine ⟨⟨⟨_, by rw [List.length_append]; exact hv, fun k hk => ?_⟩, ?_, fun b hb' => ?_, fun b hb' => ?_, h.ky, fun b hb' => Nat.lt_of_lt_of_le (h.kw b hb') hz⟩, hc⟩
  · rw [List.length_append, List.length_singleton] at hk
    by_cases hlt : k < Q.length
    · obtain ⟨a2, c2, B2, C2, e, hr2, hC2, hD2, hd2⟩ := hF k hlt
      have eg : (Q ++ [q]).getD k [] = Q.getD k [] := by simp [List.getD, List.getElem?_append_left hlt]
      rw [eg]
      refine ⟨a2, c2, B2, C2, by show (if k < Q.length then _ else _) = _; rw [if_pos hlt]; exact e, hr2.agr (agr hC2 fun b h1 h2 => (hd2 b h1 h2).1), by omega, hD2, fun b h1 h2 => ⟨fun hb' => (hd2 b h1 h2).1 (nx b (by omega) hb'), (hd2 b h1 h2).2⟩⟩
    · obtain rfl : k = Q.length := by omega
      have eg : (Q ++ [q]).getD Q.length [] = q := by simp [List.getD]
      rw [eg]
      refine ⟨a', c', B', C', by show (if Q.length < Q.length then _ else _) = _; rw [if_neg (Nat.lt_irrefl _), Nat.sub_self]; rfl, hr.agr (agr hC fun b h1 h2 => (hd b h1 h2).1), by omega, hDB, fun b h1 h2 => ⟨fun hb' => (hd b h1 h2).1 (nx b (by omega) hb'), (hd b h1 h2).2⟩⟩
  · rcases h.n with ⟨e1, e2, e3⟩ | ⟨g, f, e1, h1, h2, h3⟩
    · exact .inl ⟨e1, e2, e3⟩
    · exact .inr ⟨g, f, e1, h1, by omega, h3.1.of_block (hc.block g h2 (fun hx => h.dis g hx (by rw [e1]; rfl))), h3.2⟩
  · rcases nb b hb' with h1 | h1
    · exact h.dis b h1
    · intro hy
      have := h.y_lt hy; omega
  · rcases nb b hb' with h1 | h1
    · exact h.kx b h1
    · intro hk
      have := h.kw b hk; omega
/-- The nodes' list has grown. -/
theorem DueLo.pushA {D : Nat} {w w' : World} {E I : Nat} {K : Nat → Prop} {x y : Option Addr} {c d d1 g : Nat} {Q : List (List (List Int))} {A : List Int} {o : Obj} {v : Int}
    (h : DueLo D w E I K x c y d Q A) (hv : OwI w' I 0 w'.heap.size (some ⟨g, 0, none⟩) d1 (A ++ [v])) (hg : (w.alloc o).grownBy w' (blockOf y)) (hb : blockOf y = some g ∨ g = (w.alloc o).heap.size) :
    DueLo D w' E I K x c (some ⟨g, 0, none⟩) d1 Q (A ++ [v]) ∧ Chg (fun b => blockOf y = some b) w w' := by
  have hc : Chg (fun b => blockOf y = some b) w w' := ((Chg.refl _ w).alloc o).grown hg (fun k hk => .inl hk)
  have hz : w.heap.size ≤ w'.heap.size := hc.size
  have ha : (w.alloc o).heap.size = w.heap.size + 1 := by simp
  have nb : blockOf y = some g ∨ w.heap.size ≤ g := by
    rcases hb with h1 | h1
    · exact .inl h1
    · exact .inr (by omega)
  have ny : ∀ b, b < w.heap.size → some g = some b → blockOf y = some b := fun b hlt hb' => by
    injection hb' with hb'
    rcases nb with h1 | h1
    · rw [h1, hb']
    · omega
  obtain ⟨F, hF, hE⟩ := h.q
  refine ⟨⟨⟨F, ?_, fun k hk => ?_⟩, hv, fun b hb' hy => ?_, h.kx, fun b hy hk => ?_, fun b hb' => Nat.lt_of_lt_of_le (h.kw b hb') hz⟩, hc⟩
  · rcases hF with h1 | ⟨g', f, e1, h1, h2, h3, h4⟩
    · exact .inl h1
    · exact .inr ⟨g', f, e1, h1, by omega, h3.of_block (hc.block g' h2 (h.dis g' (by rw [e1]; rfl))), h4⟩
  · obtain ⟨a2, c2, B2, C2, e, hr2, hC2, hD2, hd2⟩ := hE k hk
    exact ⟨a2, c2, B2, C2, e, hr2.agr (hc.agr hC2 fun b h1 h2 => (hd2 b h1 h2).2), by omega, hD2, fun b h1 h2 => ⟨(hd2 b h1 h2).1, fun hb' => (hd2 b h1 h2).2 (ny b (by omega) hb')⟩⟩
  · have hlt := h.x_lt hb'
    exact h.dis b hb' (ny b hlt hy)
  · have hlt := h.kw b hk
    exact h.ky b (ny b hlt hy) hk
/-- What stands in the two lists. -/
theorem DueLo.rdA {D : Nat} {w : World} {E I : Nat} {K : Nat → Prop} {x y : Option Addr} {c d : Nat} {Q : List (List (List Int))} {A : List Int} (h : DueLo D w E I K x c y d Q A) : RdI w 0 w.heap.size y A := h.n.rd
theorem DueLo.atQ {D : Nat} {w : World} {E I : Nat} {K : Nat → Prop} {x y : Option Addr} {c d : Nat} {Q : List (List (List Int))} {A : List Int} (h : DueLo D w E I K x c y d Q A) (k : Nat) (hk : k < Q.length) :
    ∃ g a' c' B' C', x = some ⟨g, 0, none⟩ ∧ g < w.heap.size ∧ w.cell? ⟨g, k, none⟩ = some (.slice a' (Q.getD k []).length c') ∧ RdII w B' C' a' (Q.getD k []) ∧ C' ≤ w.heap.size ∧ D ≤ B' := by
  obtain ⟨F, hF, hE⟩ := h.q
  obtain ⟨a', c', B', C', e, hr, hC, hDB, _⟩ := hE k hk
  rcases hF with ⟨_, h0, _⟩ | ⟨g, f, e1, _, h2, h3, h4, _, h5⟩
  · omega
  · exact ⟨g, a', c', B', C', e1, h2, by rw [h3.cell (by omega), h5 k hk, e], hr, hC, hDB⟩
section
variable {P : Program}
/-- append of a picture. -/
theorem wpList_loQ {D T E I bytes : Nat} {z : Value} (hT : P.underlying T = some (.slice E)) (hE : (P.info? E).map (fun i => (i.zero, i.size, i.bytes)) = some (some z, 1, bytes)) (hz1 : z.cells.size = 1) (hby : bytes ≤ 24)
    (w : World) {ops : Array Oper} {rest : List Oper} {o : Oper} {a : Act} {R : Exit → Act → World → Prop} (hgd : o.guard = none) (s x : Operand) (ho : o.op = .call { callee := .builtin .append, args := #[s, x], argTypes := #[T, T] })
    (K : Nat → Prop) (x0 : Option Addr) (c0 : Nat) (y0 : Option Addr) (d0 : Nat) (Q : List (List (List Int))) (A : List Int) (hs : a.eval s = .slice x0 Q.length c0) (hst : DueLo D w E I K x0 c0 y0 d0 Q A) (a' : Option Addr) (c' : Nat) (q : List (List Int))
    (hx : a.eval x = .slice (some ⟨w.heap.size, 0, none⟩) 1 1) (B' C' : Nat) (hr : RdII w B' C' a' q) (hC : C' ≤ w.heap.size) (hDB : D ≤ B') (hd : ∀ b, B' ≤ b → b < C' → blockOf x0 ≠ some b ∧ blockOf y0 ≠ some b) (hlen : Q.length ≤ 1048576)
    (h : ∀ x1 c1 w', DueLo D w' E I K x1 c1 y0 d0 (Q ++ [q]) A → Chg (fun b => blockOf x0 = some b) w w' → wpList P ops R rest (a.put o.dst (.slice x1 (Q.length + 1) c1)) w') :
    wpList P ops R (o :: rest) a (w.alloc (.cells #[.slice a' q.length c'] E)) := by
  obtain ⟨F, hF, hEE⟩ := hst.q
  have hF2 : OwV (w.alloc (.cells #[.slice a' q.length c'] E)) E 0 w.heap.size x0 c0 Q.length F := hF.agr ((Agr.refl _ _ _).alloc (Nat.le_refl _) _)
  refine wpList_plain hgd fun L hL => wp_appVs hT hE hz1 hby _ s x ho 0 w.heap.size x0 c0 Q.length F hs hF2 (Nat.zero_le _) (some ⟨w.heap.size, 0, none⟩) 1 1 [.slice a' q.length c'] hx rfl ?_ (fun e => by cases e) (by simp [Value.oneCell']) (by omega) ?_
  · intro ad had j u hu
    injection had with had
    subst had
    match j, hu with
    | 0, hu => injection hu with hu; subst hu; exact new_cellE _ _ _ rfl
  · intro x1 c1 w' h2 h3 h4
    obtain ⟨h5, h6⟩ := hst.pushQ hEE h2 h3 h4 hr hC hDB hd
    exact hL _ _ (h x1 c1 w' h5 h6)
/-- append of a node. -/
theorem wpList_loA {D T E I : Nat} (hT : P.underlying T = some (.slice I)) (hE : (P.info? I).map (fun i => (i.zero, i.size, i.bytes)) = some (some (.int .i64 0), 1, 8))
    (w : World) {ops : Array Oper} {rest : List Oper} {o : Oper} {a : Act} {R : Exit → Act → World → Prop} (hgd : o.guard = none) (s x : Operand) (ho : o.op = .call { callee := .builtin .append, args := #[s, x], argTypes := #[T, T] })
    (K : Nat → Prop) (x0 : Option Addr) (c0 : Nat) (y0 : Option Addr) (d0 : Nat) (Q : List (List (List Int))) (A : List Int) (hs : a.eval s = .slice y0 A.length d0) (hst : DueLo D w E I K x0 c0 y0 d0 Q A) (v : Int)
    (hx : a.eval x = .slice (some ⟨w.heap.size, 0, none⟩) 1 1) (hlen : A.length ≤ 1048576)
    (h : ∀ y1 d1 w', DueLo D w' E I K x0 c0 y1 d1 Q (A ++ [v]) → Chg (fun b => blockOf y0 = some b) w w' → wpList P ops R rest (a.put o.dst (.slice y1 (A.length + 1) d1)) w') :
    wpList P ops R (o :: rest) a (w.alloc (.cells #[.int .i64 v] I)) := by
  refine wpList_appI hT hE _ hgd s x ho 0 w.heap.size y0 d0 A hs (hst.n.agr ((Agr.refl _ _ _).alloc (Nat.le_refl _) _)) (Nat.zero_le _) ⟨w.heap.size, 0, none⟩ v hx (new_cellE _ _ _ rfl) hlen ?_
  intro g d1 w' hown hgrow hat hg
  obtain ⟨h5, h6⟩ := hst.pushA hown hgrow hat
  exact h _ d1 w' h5 h6
end
/-- What changes below D only (and not in the lists' blocks) leaves the lists. -/
theorem DueLo.low {D : Nat} {w w' : World} {E I : Nat} {K S : Nat → Prop} {x y : Option Addr} {c d : Nat} {Q : List (List (List Int))} {A : List Int} (h : DueLo D w E I K x c y d Q A) (k : Chg S w w') (hS : ∀ b, S b → b < D) (hK : ∀ b, S b → K b) : DueLo D w' E I K x c y d Q A := by
  obtain ⟨⟨F, h1, h2⟩, h3, h4, h5, h6, h7⟩ := h
  have hz : w.heap.size ≤ w'.heap.size := k.size
  refine ⟨⟨F, ?_, fun j hj => ?_⟩, ?_, h4, h5, h6, fun b hb => Nat.lt_of_lt_of_le (h7 b hb) hz⟩
  · rcases h1 with h1 | ⟨g', f, e1, g1, g2, g3, g4⟩
    · exact .inl h1
    · exact .inr ⟨g', f, e1, g1, by omega, g3.of_block (k.block g' g2 (fun hs => h5 g' (by rw [e1]; rfl) (hK g' hs))), g4⟩
  · obtain ⟨a', c', B', C', e, hr, hC, hDB, hb⟩ := h2 j hj
    exact ⟨a', c', B', C', e, hr.agr (k.agr hC fun b g1 g2 hs => by have := hS b hs; omega), by omega, hDB, hb⟩
  · rcases h3 with ⟨e1, e2, e3⟩ | ⟨g, f, e1, g1, g2, g3⟩
    · exact .inl ⟨e1, e2, e3⟩
    · exact .inr ⟨g, f, e1, g1, by omega, g3.1.of_block (k.block g g2 (fun hs => h6 g (by rw [e1]; rfl) (hK g hs))), g3.2⟩
/-- The pictures, as they can be read. -/
theorem DueLo.rdQ {D : Nat} {w : World} {E I : Nat} {K : Nat → Prop} {x y : Option Addr} {c d : Nat} {Q : List (List (List Int))} {A : List Int} (h : DueLo D w E I K x c y d Q A) (hm : ∀ k, k < Q.length → (Q.getD k []).length ≤ maxLen) (hx : ∀ b, blockOf x = some b → D ≤ b) : RdIII w D w.heap.size x Q := by
  intro k hk
  obtain ⟨g, a', c', B', C', e1, h1, h2, h3, h4, h5⟩ := h.atQ k hk
  exact ⟨g, 0, a', c', e1, hx g (by rw [e1]; rfl), h1, by rw [Nat.zero_add]; exact h2, h3.mono h5 h4, hm k hk⟩
/-- The same of the lists of impl.isSaid. -/
theorem DueSt.rdQ {w : World} {E I : Nat} {K : Nat → Prop} {x y : Option Addr} {c d : Nat} {Q : List (List (List Int))} {A : List Int} (h : DueSt w E I K x c y d Q A) (hm : ∀ k, k < Q.length → (Q.getD k []).length ≤ maxLen) : RdIII w 0 w.heap.size x Q := by
  intro k hk
  obtain ⟨g, a', c', B', C', e1, h1, h2, h3, h4⟩ := h.atQ k hk
  exact ⟨g, 0, a', c', e1, Nat.zero_le _, h1, by rw [Nat.zero_add]; exact h2, h3.mono (Nat.zero_le _) h4, hm k hk⟩
end Go.Hyp
namespace Go.Hyp
open Go.RowKit Go.Deep
/-- How many rows and numbers pictures hold together. -/
def lensP (P : List (List (List Int))) : Nat := (P.map fun p => p.length + lens p).sum
theorem lensP_succ (P : List (List (List Int))) (k : Nat) (h : k < P.length) : lensP (P.take (k + 1)) = lensP (P.take k) + (P[k].length + lens P[k]) := by
  unfold lensP; rw [List.take_succ_eq_append_getElem h, List.map_append, List.sum_append]; simp
theorem lensP_le (P : List (List (List Int))) (k : Nat) : lensP (P.take k) ≤ lensP P := by
  have e : lensP P = lensP (P.take k) + lensP (P.drop k) := by
    unfold lensP; rw [← List.sum_append, ← List.map_append, List.take_append_drop]
  omega
theorem lensP_at (P : List (List (List Int))) (k : Nat) (h : k < P.length) : P[k].length + lens P[k] ≤ lensP P := by
  have := lensP_succ P k h; have := lensP_le P (k + 1); omega
/-- The law's counter over pictures. -/
def szIII (k : Int) (P : List (List (List Int))) : Int := if k < P.length + lensP P then -1 else k - (P.length + lensP P)
theorem szIII_cases (k : Int) (P : List (List (List Int))) : (k < P.length + lensP P ∧ szIII k P = -1) ∨ ((P.length + lensP P : Int) ≤ k ∧ szIII k P = k - (P.length + lensP P)) := by
  unfold szIII
  by_cases h : k < P.length + lensP P
  · exact .inl ⟨h, by rw [if_pos h]⟩
  · exact .inr ⟨by omega, by rw [if_neg h]⟩
theorem RdIII.at {w : World} {B C : Nat} {a : Option Addr} {P : List (List (List Int))} (h : RdIII w B C a P) (i : Nat) (hi : i < P.length) :
    ∃ b off a' cap, a = some ⟨b, off, none⟩ ∧ B ≤ b ∧ b < C ∧ w.cell? ⟨b, off + i, none⟩ = some (.slice a' P[i].length cap) ∧ RdII w B C a' P[i] ∧ P[i].length ≤ maxLen := by
  obtain ⟨b, off, a', cap, e, h1, h2, hc, hr, hl⟩ := h i hi
  have eg : P.getD i [] = P[i] := by simp [List.getD, hi]
  rw [eg] at hc hr hl
  exact ⟨b, off, a', cap, e, h1, h2, hc, hr, hl⟩
/-- Block g is a new block of pictures, of which the first k are in place. -/
def PartIII (w : World) (R B g n : Nat) (P : List (List (List Int))) (k : Nat) : Prop :=
  ∃ (ra : Nat → Option Addr) (rc : Nat → Nat), w.rowIs g R n (fun j => if j < k then .slice (ra j) (P.getD j []).length (rc j) else .slice none 0 0) ∧
    ∀ j, j < k → RdII w B w.heap.size (ra j) (P.getD j []) ∧ (P.getD j []).length ≤ maxLen
theorem PartIII.start {w : World} {R B g n : Nat} {P : List (List (List Int))} (h : w.rowIs g R n (fun _ => .slice none 0 0)) : PartIII w R B g n P 0 :=
  ⟨fun _ => none, fun _ => 0, h.congr (fun i _ => by simp), fun j hj => by omega⟩
theorem PartIII.step {w w1 : World} {R B g n : Nat} {P : List (List (List Int))} {k : Nat} {a' : Option Addr} {c' : Nat} {l : List (List Int)} (h : PartIII w R B g n P k) (hb : Below w.heap.size w w1)
    (ho : RdII w1 w.heap.size w1.heap.size a' l) (hl : l = P.getD k []) (hm : l.length ≤ maxLen) (hg : g < B) (hB : B ≤ w.heap.size) : PartIII (w1.setCell ⟨g, k, none⟩ (.slice a' l.length c')) R B g n P (k + 1) := by
  subst hl
  obtain ⟨ra, rc, h1, h2⟩ := h
  have hgw := h1.lt
  refine ⟨fun j => if j = k then a' else ra j, fun j => if j = k then c' else rc j, ?_, ?_⟩
  · refine ((h1.of_block (hb.block g hgw)).set k _).congr fun j hj => ?_
    by_cases e : j = k
    · subst e; simp
    · simp only [if_neg e]
      by_cases hjk : j < k
      · rw [if_pos hjk, if_pos (by omega)]
      · rw [if_neg hjk, if_neg (by omega)]
  · intro j hj
    have hsz : (w1.setCell ⟨g, k, none⟩ (.slice a' (P.getD k []).length c')).heap.size = w1.heap.size := by simp
    by_cases e : j = k
    · subst e
      simp only [if_true]
      rw [hsz]
      exact ⟨(ho.agr ((Agr.refl _ _ _).set (by omega) _)).mono hB (Nat.le_refl _), hm⟩
    · simp only [if_neg e]
      rw [hsz]
      exact ⟨((h2 j (by omega)).1.agr ((agr_below hb (Nat.le_refl _)).set (by omega) _)).mono (Nat.le_refl _) hb.size, (h2 j (by omega)).2⟩
theorem PartIII.done {w : World} {R g n : Nat} {P : List (List (List Int))} (h : PartIII w R (g + 1) g n P P.length) (hn : n = P.length) : RdIII w g w.heap.size (some ⟨g, 0, none⟩) P := by
  subst hn
  obtain ⟨ra, rc, h1, h2⟩ := h
  intro i hi
  exact ⟨g, 0, ra i, rc i, rfl, Nat.le_refl _, h1.lt, by rw [Nat.zero_add, h1.cell hi, if_pos hi], (h2 i hi).1.mono (Nat.le_succ _) (Nat.le_refl _), (h2 i hi).2⟩
/-- Pictures that were copied. -/
def OwIII (w : World) (B C : Nat) (a : Option Addr) (P : List (List (List Int))) : Prop := RdIII w B C a P ∧ P.length ≤ maxLen
theorem OwIII.rd {w : World} {B C : Nat} {a : Option Addr} {P : List (List (List Int))} (h : OwIII w B C a P) : RdIII w B C a P := h.1
theorem OwIII.len {w : World} {B C : Nat} {a : Option Addr} {P : List (List (List Int))} (h : OwIII w B C a P) : P.length ≤ maxLen := h.2
theorem OwIII.below {w w' : World} {B C D : Nat} {a : Option Addr} {P : List (List (List Int))} (h : OwIII w B C a P) (k : Below D w w') (hC : C ≤ D) : OwIII w' B C a P := ⟨h.1.below k hC, h.2⟩
end Go.Hyp
namespace Go.Proofs.Ytfjodcfbhpglhaa
open Go.RowKit Go.Hyp Go.Deep

theorem Try.infoRowsL : (Try.prog.info? 38).map (fun i => (i.zero, i.size, i.bytes)) = some (some (.slice none 0 0), 1, 24) := by kernel_rfl

set_option maxHeartbeats 400000 in
theorem toIntSSS_any (a : Option Addr) (cap : Nat) (P : List (List (List Int))) (w : World) (B C : Nat) (h : RdIII w B C a P) (hC : C ≤ w.heap.size) (hl : P.length ≤ 1048576) (hls : lensP P ≤ 1048576) :
    Calls Try.prog 9 #[.slice a P.length cap] w fun e w' => ∃ a' c', e = .returned (.slice a' P.length c') ∧ OwIII w' w.heap.size w'.heap.size a' P ∧ Below w.heap.size w w' := by
  have hmk := run_make_row' (P := Try.prog) 23 38 _ _ Try.underlying23 Try.infoRowsL rfl .i64 .i64 P.length (by omega) (by omega)
  go_enter Try.func9, Try.ntmps9
  go_wp2_with fail
  go_loopw [4] (fun i wr => ∃ k : Nat, k ≤ P.length ∧ i = .int .i64 k ∧ PartIII wr 38 (w.heap.size + 1) w.heap.size P.length P k ∧ Below w.heap.size w wr ∧ w.heap.size < wr.heap.size) (fun i _ => P.length - (intOf i).toNat)
  case atStart => exact ⟨0, Nat.zero_le _, rfl, .start ((World.rowIs_made w _ _ _).congr (fun i _ => rfl)), below_alloc _ _, by simp⟩
  case round =>
    obtain ⟨k, hk, rfl, hpart, hb, hz⟩ := hrel
    by_cases hlt : k < P.length
    · obtain ⟨b, off, a', c', rfl, h1, h2, hc, hr, hll⟩ := (h.below hb hC).at k hlt
      have hle : P[k].length ≤ 1048576 ∧ lens P[k] ≤ 1048576 := by have := lensP_at P k hlt; omega
      have HP := Lib.hid hpart
      have HB := Lib.hid hb
      have HR := Lib.hid hr
      clear hpart h hb hr
      go_wp2_with fail
      refine (toIntSS_any a' c' P[k] _ B C HR.out (by have := HB.out.size; omega) hle.1 hle.2).mono ?_
      rintro e w1 ⟨a'', c'', rfl, ho, hb1⟩
      obtain ⟨ra, rc, hrow, _⟩ := id HP.out
      have hrow1 := hrow.of_block (hb1.block _ hrow.lt)
      have hd := hrow1.cell hlt
      have hfz := hrow1.frozen k
      have HPS := Lib.hid (HP.out.step (k := k) (c' := c'') hb1 ho.rd (by simp [List.getD, hlt]) hll (by omega) (by omega))
      have HB1 := Lib.hid (HB.out.trans (hb1.mono (by omega)))
      have hz1 : w.heap.size < w1.heap.size := by have := hb1.size; omega
      clear hrow hrow1 ho hb1
      go_wp2_with fail
      go_roundw
      case rel => exact ⟨k + 1, by omega, by go_num, HPS.out, HB1.out.setCell (by simp) _, by simpa using hz1⟩
      case measure => simp [intOf]; omega
    · obtain rfl : k = P.length := by omega
      have HP := Lib.hid hpart
      clear hpart h
      go_wp2_with fail
      go_ret
      exact ⟨_, _, rfl, ⟨HP.out.done rfl, by unfold maxLen; omega⟩, hb⟩

set_option maxHeartbeats 400000 in
theorem szIntSSS_any (a : Option Addr) (cap : Nat) (P : List (List (List Int))) (n : Int) (w : World) (B C : Nat) (h : RdIII w B C a P) (hl : P.length ≤ maxLen) (h0 : 0 ≤ n) (h1 : n ≤ 1048576) :
    Calls Try.prog 6 #[.slice a P.length cap, .int .i64 n] w fun e w' => e = .returned (.int .i64 (szIII n P)) ∧ w = w' := by
  unfold maxLen at hl
  by_cases hlt : n < P.length
  · have hc : n - P.length < 0 := by omega
    go_enter Try.func6, Try.ntmps6
    go_wp2_with fail
    go_ret
    exact ⟨ret_int (by unfold szIII; rw [if_pos (by omega)]), rfl⟩
  · have hc : ¬ (n - P.length < 0) := by omega
    go_enter Try.func6, Try.ntmps6
    go_wp2_with fail
    go_loop [1, 4, 5] (fun m r i => ∃ (k : Nat) (m' : Int), k ≤ P.length ∧ r = .int .i64 0 ∧ i = .int .i64 k ∧ m = .int .i64 m' ∧ 0 ≤ m' ∧ m' ≤ 1048576 ∧ m' = n - P.length - lensP (P.take k)) (fun _ _ i => P.length - (intOf i).toNat)
    case atStart => exact ⟨0, _, Nat.zero_le _, rfl, rfl, rfl, by omega, by omega, by simp [lensP]⟩
    case round =>
      obtain ⟨k, m', hk, rfl, rfl, rfl, hm0, hm1, hm⟩ := hrel
      have HM := Lib.hid hm
      clear hm
      by_cases hlt' : k < P.length
      · obtain ⟨b, off, a', c', rfl, _, _, hc, hr, hll⟩ := h.at k hlt'
        have HS := Lib.hid (lensP_succ P k hlt')
        have HL := Lib.hid (lensP_le P (k + 1))
        have HC := Lib.hid (szII_cases m' P[k])
        have HR := Lib.hid hr
        clear h hr
        by_cases hneg : szII m' P[k] < 0
        · go_wp2_with fail
          refine (szIntSS_any a' c' P[k] m' _ B C HR.out hll hm0 hm1).mono ?_
          rintro e w' ⟨rfl, rfl⟩
          go_wp2_with fail
          go_ret
          exact ⟨ret_int (by unfold szIII; rw [if_pos (by have := HM.out; have := HS.out; have := HL.out; rcases HC.out with hx | hx <;> omega)]), rfl⟩
        · go_wp2_with fail
          refine (szIntSS_any a' c' P[k] m' _ B C HR.out hll hm0 hm1).mono ?_
          rintro e w' ⟨rfl, rfl⟩
          go_wp2_with fail
          go_round
          case rel => exact ⟨k + 1, _, by omega, rfl, by go_num, rfl, by omega, by rcases HC.out with hx | hx <;> omega, by have := HM.out; have := HS.out; rcases HC.out with hx | hx <;> omega⟩
          case measure => simp [intOf]; omega
      · go_wp2_with fail
        go_ret
        exact ⟨ret_int (by have := HM.out; rw [List.take_of_length_le (by omega)] at this; unfold szIII; rw [if_neg (by omega)]; omega), rfl⟩

set_option maxHeartbeats 400000 in
theorem eqIntSSS_any (a a' : Option Addr) (cap cap' : Nat) (p p' : List (List (List Int))) (w : World) (B C B' C' : Nat) (h : RdIII w B C a p) (h' : RdIII w B' C' a' p') (hl : p.length ≤ maxLen) :
    Calls Try.prog 13 #[.slice a p.length cap, .slice a' p'.length cap'] w fun e w' => e = .returned (.bool (decide (p = p'))) ∧ Qt w w' := by
  unfold maxLen at hl
  by_cases hlen : p.length = p'.length
  · have hb : (((p.length : Nat) : Int) != ((p'.length : Nat) : Int)) = false := by simp [hlen]
    have Hlen := Lib.hid hlen
    clear hlen
    go_enter Try.func13, Try.ntmps13
    go_wp2_with fail
    go_loopw [4, 5] (fun r i wr => ∃ k : Nat, k ≤ p.length ∧ r = .bool false ∧ i = .int .i64 k ∧ p.take k = p'.take k ∧ Qt w wr) (fun _ i _ => p.length - (intOf i).toNat)
    case atStart => exact ⟨0, Nat.zero_le _, rfl, rfl, rfl, Qt.refl _⟩
    case round =>
      obtain ⟨k, hk, rfl, rfl, he, hq⟩ := hrel
      have HE := Lib.hid he
      have HQ := Lib.hid hq
      clear he hq
      by_cases hlt : k < p.length
      · have hlt' : k < p'.length := by have := Hlen.out; omega
        obtain ⟨b, off, x, c, rfl, _, _, hc, hr, hll⟩ := (h.agr HQ.out.agr).at k hlt
        obtain ⟨b', off', x', c', rfl, _, _, hc', hr', hll'⟩ := (h'.agr HQ.out.agr).at k hlt'
        have HR := Lib.hid hr
        have HR' := Lib.hid hr'
        clear h h' hr hr'
        by_cases hx : p[k] = p'[k]
        · have HX := Lib.hid hx
          have HC : Hid (∀ n, Calls Try.prog 34 #[.slice x p[k].length c, .slice x' p'[k].length c'] (wr.drewN n) fun e w' => e = .returned (.bool true) ∧ Qt (wr.drewN n) w') := fun n => by
            have h := eqIntSS_any x x' c c' p[k] p'[k] (wr.drewN n) B C B' C' (HR.out.agr ((Qt.refl _).n n).agr) (HR'.out.agr ((Qt.refl _).n n).agr) hll
            rwa [decide_eq_true hx] at h
          clear hx
          go_wp2_with fail
          go_quiet ((go_at_call 34; exact quietQ (HC.out _)))
          go_wp2_with fail
          go_roundw
          case rel => exact ⟨k + 1, by omega, rfl, by go_num, take_eq_succ hlt hlt' HE.out HX.out, HQ.out.n _⟩
          case measure => simp [intOf]; omega
        · have HX := Lib.hid hx
          have HC : Hid (∀ n, Calls Try.prog 34 #[.slice x p[k].length c, .slice x' p'[k].length c'] (wr.drewN n) fun e w' => e = .returned (.bool false) ∧ Qt (wr.drewN n) w') := fun n => by
            have h := eqIntSS_any x x' c c' p[k] p'[k] (wr.drewN n) B C B' C' (HR.out.agr ((Qt.refl _).n n).agr) (HR'.out.agr ((Qt.refl _).n n).agr) hll
            rwa [decide_eq_false hx] at h
          clear hx
          go_wp2_with fail
          go_quiet ((go_at_call 34; exact quietQ (HC.out _)))
          go_wp2_with fail
          go_ret
          exact ⟨ret_bool (by rw [decide_eq_false]; exact fun e => HX.out (by simp [e])), HQ.out.n _⟩
      · go_wp2_with fail
        go_ret
        exact ⟨ret_bool (by rw [decide_eq_true]; have e := HE.out; have := Hlen.out; rwa [List.take_of_length_le (by omega), List.take_of_length_le (by omega)] at e), HQ.out⟩
  · have hb : (((p.length : Nat) : Int) != ((p'.length : Nat) : Int)) = true := by simp; omega
    have hne : p ≠ p' := fun e => hlen (by rw [e])
    go_enter Try.func13, Try.ntmps13
    go_wp2_with fail
    go_ret
    exact ⟨ret_bool (by simp [hne]), Qt.refl _⟩
end Go.Proofs.Ytfjodcfbhpglhaa
