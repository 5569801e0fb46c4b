/- The plain mathematics of pictures: which nodes draw the same set. No program in sight. -/
import Derived.Test.YtiiohodkfipfbaaGreatDoorLib
namespace Go.Hyp

/-- There is an arrow. -/
def arr (p : List (List Int)) (i j : Nat) : Bool := (p.getD i []).getD j 0 == 1
/-- Rows of bits. -/
def mat (n m : Nat) (f : Nat → Nat → Bool) : List (List Int) := (List.range n).map fun i => (List.range m).map fun j => if f i j then 1 else 0
theorem mat_len (n m : Nat) (f : Nat → Nat → Bool) : (mat n m f).length = n := by simp [mat]
theorem mat_getD (n m : Nat) (f : Nat → Nat → Bool) (i : Nat) (h : i < n) : (mat n m f).getD i [] = (List.range m).map fun j => if f i j then 1 else 0 := by simp [mat, List.getD, h]
theorem mat_arr (n m : Nat) (f : Nat → Nat → Bool) (i j : Nat) (hi : i < n) (hj : j < m) : arr (mat n m f) i j = f i j := by
  unfold arr
  rw [mat_getD n m f i hi]
  simp only [List.getD, List.getElem?_map, List.getElem?_range hj, Option.map_some, Option.getD_some]
  cases f i j <;> rfl
/-- As many numbers in each row as there are rows, all of them bits. -/
def Sq (p : List (List Int)) : Prop := rowsB p.length p = true
theorem Sq.row {p : List (List Int)} (h : Sq p) (i : Nat) (hi : i < p.length) : p[i].length = p.length ∧ bitsB p[i] = true := by
  unfold Sq rowsB at h
  rw [List.all_eq_true] at h
  have := h p[i] (List.getElem_mem hi)
  simp only [Bool.and_eq_true, decide_eq_true_eq] at this
  exact ⟨this.2, this.1⟩
theorem Sq.bit {p : List (List Int)} (h : Sq p) (i j : Nat) (hi : i < p.length) (hj : j < p.length) : (p.getD i []).getD j 0 = if arr p i j then 1 else 0 := by
  have e : p.getD i [] = p[i] := by simp [List.getD, hi]
  unfold arr
  rw [e]
  rcases bit_get (h.row i hi).2 j with e' | e' <;> rw [e'] <;> rfl
theorem Sq.eq_mat {p : List (List Int)} (h : Sq p) : p = mat p.length p.length (arr p) := by
  apply List.ext_getElem (by rw [mat_len])
  intro i h1 h2
  have hr := h.row i h1
  apply List.ext_getElem (by simp [mat, hr.1])
  intro j k1 k2
  have hj : j < p.length := by rw [← hr.1]; exact k1
  have := h.bit i j h1 hj
  simp [List.getD, h1, k1] at this
  simp [mat, this]
theorem mat_sq (n : Nat) (f : Nat → Nat → Bool) : Sq (mat n n f) := by
  unfold Sq rowsB
  rw [mat_len, List.all_eq_true]
  intro l hl
  simp only [mat, List.mem_map, List.mem_range] at hl
  obtain ⟨i, hi, rfl⟩ := hl
  simp only [Bool.and_eq_true, decide_eq_true_eq]
  refine ⟨?_, by simp⟩
  unfold bitsB
  rw [List.all_eq_true]
  intro x hx
  simp only [List.mem_map, List.mem_range] at hx
  obtain ⟨j, hj, rfl⟩ := hx
  cases f i j <;> rfl
theorem mat_congr {n m : Nat} {f g : Nat → Nat → Bool} (h : ∀ i j, i < n → j < m → f i j = g i j) : mat n m f = mat n m g := by
  unfold mat
  apply List.map_congr_left
  intro i hi
  apply List.map_congr_left
  intro j hj
  rw [h i j (by simpa using hi) (by simpa using hj)]
theorem Sq.ext {p q : List (List Int)} (h : Sq p) (k : Sq q) (hl : p.length = q.length) (ha : ∀ i j, i < p.length → j < p.length → arr p i j = arr q i j) : p = q := by
  rw [h.eq_mat, k.eq_mat, hl]
  exact mat_congr (fun i j hi hj => ha i j (by omega) (by omega))
theorem picB_sq {p : List (List Int)} (h : picB p = true) : Sq p ∧ 1 ≤ p.length ∧ p.length ≤ 5 := by
  unfold picB at h
  simp only [Bool.and_eq_true, decide_eq_true_eq] at h
  exact ⟨h.2, h.1.1, h.1.2⟩
theorem sq_picB {p : List (List Int)} (h : Sq p) (h1 : 1 ≤ p.length) (h5 : p.length ≤ 5) : picB p = true := by
  unfold picB
  simp only [Bool.and_eq_true, decide_eq_true_eq]
  exact ⟨⟨h1, h5⟩, h⟩

/-! ### Rounds -/

/-- Each member of a is told equal to some member of b. -/
def mtch (p : List (List Int)) (s : Nat → Nat → Bool) (a b : Nat) : Bool :=
  (List.range p.length).all fun k => !arr p a k || (List.range p.length).any fun j => arr p b j && s k j
theorem mtch_iff {p : List (List Int)} {s : Nat → Nat → Bool} {a b : Nat} : mtch p s a b = true ↔ ∀ k, k < p.length → arr p a k = true → ∃ j, j < p.length ∧ arr p b j = true ∧ s k j = true := by
  unfold mtch
  simp only [List.all_eq_true, List.mem_range, Bool.or_eq_true, Bool.not_eq_true', List.any_eq_true, Bool.and_eq_true]
  constructor
  · intro h k hk ha
    rcases h k hk with h | ⟨j, h1, h2⟩
    · rw [ha] at h; cases h
    · exact ⟨j, h1, h2⟩
  · intro h k hk
    cases ha : arr p a k
    · exact .inl rfl
    · exact .inr (h k hk ha)
/-- The pairs that are left after r rounds. -/
def left (p : List (List Int)) : Nat → Nat → Nat → Bool
  | 0, _, _ => true
  | r + 1, a, b => left p r a b && mtch p (left p r) a b && mtch p (left p r) b a
theorem left_succ {p : List (List Int)} {r a b : Nat} : left p (r + 1) a b = true ↔ left p r a b = true ∧ mtch p (left p r) a b = true ∧ mtch p (left p r) b a = true := by
  simp only [left, Bool.and_eq_true, and_assoc]
theorem left_refl (p : List (List Int)) (r a : Nat) : left p r a a = true := by
  induction r generalizing a with
  | zero => rfl
  | succ r ih => rw [left_succ]; exact ⟨ih a, mtch_iff.2 fun k hk h => ⟨k, hk, h, ih k⟩, mtch_iff.2 fun k hk h => ⟨k, hk, h, ih k⟩⟩
theorem left_symm (p : List (List Int)) (r a b : Nat) : left p r a b = left p r b a := by
  cases r with
  | zero => rfl
  | succ r =>
    have ih := left_symm p r a b
    simp only [left, ih, Bool.and_assoc]
    congr 1
    exact Bool.and_comm _ _
theorem left_trans {p : List (List Int)} {r a b c : Nat} (h : left p r a b = true) (k : left p r b c = true) : left p r a c = true := by
  induction r generalizing a b c with
  | zero => rfl
  | succ r ih =>
    rw [left_succ] at h k ⊢
    obtain ⟨h1, h2, h3⟩ := h
    obtain ⟨k1, k2, k3⟩ := k
    rw [mtch_iff] at h2 h3 k2 k3
    refine ⟨ih h1 k1, mtch_iff.2 fun x hx hax => ?_, mtch_iff.2 fun x hx hcx => ?_⟩
    · obtain ⟨y, hy, hb, hxy⟩ := h2 x hx hax
      obtain ⟨z, hz, hc, hyz⟩ := k2 y hy hb
      exact ⟨z, hz, hc, ih hxy hyz⟩
    · obtain ⟨y, hy, hb, hxy⟩ := k3 x hx hcx
      obtain ⟨z, hz, hc, hyz⟩ := h3 y hy hb
      exact ⟨z, hz, hc, ih hxy hyz⟩
theorem left_anti {p : List (List Int)} {r s a b : Nat} (hs : r ≤ s) (h : left p s a b = true) : left p r a b = true := by
  induction s with
  | zero => obtain rfl : r = 0 := by omega
            exact h
  | succ s ih =>
    by_cases e : r = s + 1
    · subst e; exact h
    · exact ih (by omega) (left_succ.1 h).1
/-- From round r on nothing is struck out. -/
def Still (p : List (List Int)) (r : Nat) : Prop := ∀ a b, a < p.length → b < p.length → left p r a b = true → left p (r + 1) a b = true
theorem Still.next {p : List (List Int)} {r : Nat} (h : Still p r) : Still p (r + 1) := by
  intro a b ha hb hl
  have h' := hl
  rw [left_succ] at hl ⊢
  refine ⟨h', mtch_iff.2 fun x hx hax => ?_, mtch_iff.2 fun x hx hax => ?_⟩
  · obtain ⟨y, hy, h1, h2⟩ := mtch_iff.1 hl.2.1 x hx hax
    exact ⟨y, hy, h1, h x y hx hy h2⟩
  · obtain ⟨y, hy, h1, h2⟩ := mtch_iff.1 hl.2.2 x hx hax
    exact ⟨y, hy, h1, h x y hx hy h2⟩
theorem Still.all {p : List (List Int)} {r s a b : Nat} (h : Still p r) (hs : r ≤ s) (ha : a < p.length) (hb : b < p.length) (hl : left p r a b = true) : left p s a b = true := by
  have key : ∀ d, Still p (r + d) ∧ left p (r + d) a b = true := by
    intro d
    induction d with
    | zero => exact ⟨h, hl⟩
    | succ d ih => exact ⟨ih.1.next, ih.1 a b ha hb ih.2⟩
  have := (key (s - r)).2
  rwa [show r + (s - r) = s by omega] at this
/-- The least one of its kind. -/
def first (p : List (List Int)) (r a : Nat) : Bool := (List.range a).all fun b => !left p r b a
theorem first_iff {p : List (List Int)} {r a : Nat} : first p r a = true ↔ ∀ b, b < a → left p r b a = false := by
  unfold first
  simp only [List.all_eq_true, List.mem_range, Bool.not_eq_true']
/-- How many kinds there are. -/
def kinds (p : List (List Int)) (r : Nat) : Nat := ((List.range p.length).filter (first p r)).length
theorem first_of (p : List (List Int)) (r a : Nat) : ∃ c, c ≤ a ∧ left p r c a = true ∧ first p r c = true := by
  induction a using Nat.strongRecOn with
  | ind a ih =>
    cases hf : first p r a
    · have : ∃ b, b < a ∧ left p r b a = true := by
        apply Classical.byContradiction
        intro hn
        have : first p r a = true := first_iff.2 fun b hb => by
          cases h : left p r b a
          · rfl
          · exact absurd ⟨b, hb, h⟩ hn
        rw [hf] at this; cases this
      obtain ⟨b, hb, hl⟩ := this
      obtain ⟨c, hc, h1, h2⟩ := ih b hb
      exact ⟨c, by omega, left_trans h1 hl, h2⟩
    · exact ⟨a, Nat.le_refl _, left_refl _ _ _, hf⟩
theorem filter_lt {α : Type} (f g : α → Bool) (l : List α) (h : ∀ x ∈ l, f x = true → g x = true) (y : α) (hy : y ∈ l) (h1 : f y = false) (h2 : g y = true) : (l.filter f).length < (l.filter g).length := by
  have hle : ∀ l : List α, (∀ x ∈ l, f x = true → g x = true) → (l.filter f).length ≤ (l.filter g).length := by
    intro l
    induction l with
    | nil => intro _; simp
    | cons x l ih =>
      intro h
      have h' := ih (fun y hy => h y (by simp [hy]))
      have hx := h x (by simp)
      simp only [List.filter_cons]
      cases e1 : f x
      · cases e2 : g x <;> simp <;> omega
      · rw [hx e1]; simp; omega
  induction l with
  | nil => simp at hy
  | cons x l ih =>
    have hxx := h x (by simp)
    have h' : ∀ x ∈ l, f x = true → g x = true := fun y hy => h y (by simp [hy])
    have hl := hle l h'
    simp only [List.filter_cons]
    rcases List.mem_cons.1 hy with rfl | hy'
    · rw [h1, h2]; simp; omega
    · have := ih h' hy'
      cases e1 : f x
      · cases e2 : g x <;> simp <;> omega
      · rw [hxx e1]; simp; omega
theorem kinds_lt {p : List (List Int)} {r : Nat} (h : ¬ Still p r) : kinds p r < kinds p (r + 1) := by
  have : ∃ a b, a < p.length ∧ b < p.length ∧ left p r a b = true ∧ left p (r + 1) a b = false := by
    apply Classical.byContradiction
    intro hn
    apply h
    intro a b ha hb hl
    cases e : left p (r + 1) a b
    · exact absurd ⟨a, b, ha, hb, hl, e⟩ hn
    · rfl
  obtain ⟨a, b, ha, hb, hl, hn⟩ := this
  obtain ⟨c, hc, hca, hcf⟩ := first_of p r a
  have hx : ∃ x, x < p.length ∧ left p r c x = true ∧ left p (r + 1) c x = false := by
    cases e : left p (r + 1) c a
    · exact ⟨a, ha, hca, e⟩
    · cases e' : left p (r + 1) c b
      · exact ⟨b, hb, left_trans hca hl, e'⟩
      · rw [left_symm] at e
        rw [left_trans e e'] at hn; cases hn
  obtain ⟨x, hxl, hcx, hcn⟩ := hx
  obtain ⟨d, hd, hdx, hdf⟩ := first_of p (r + 1) x
  have hcd : left p r c d = true := by
    have := left_anti (Nat.le_succ r) hdx
    rw [left_symm] at this
    exact left_trans hcx this
  have hlt : c < d := by
    rcases Nat.lt_trichotomy c d with h | h | h
    · exact h
    · subst h; rw [hdx] at hcn; cases hcn
    · have := first_iff.1 hcf d h
      rw [left_symm, hcd] at this; cases this
  refine filter_lt _ _ _ (fun y _ hy => first_iff.2 fun z hz => ?_) d (by simp; omega) ?_ hdf
  · cases e : left p (r + 1) z y
    · rfl
    · have := first_iff.1 hy z hz
      rw [left_anti (Nat.le_succ r) e] at this; cases this
  · cases e : first p r d
    · rfl
    · have := first_iff.1 e c hlt
      rw [hcd] at this; cases this
theorem kinds_le (p : List (List Int)) (r : Nat) : kinds p r ≤ p.length := by
  unfold kinds
  exact Nat.le_trans (List.length_filter_le _ _) (by simp)
theorem kinds_pos {p : List (List Int)} (r : Nat) (h : 0 < p.length) : 0 < kinds p r := by
  unfold kinds
  apply List.length_pos_of_mem (a := 0)
  rw [List.mem_filter]
  exact ⟨by simpa using h, first_iff.2 fun b hb => by omega⟩
/-- After as many rounds as there are nodes but one nothing is struck out. -/
theorem still_pred (p : List (List Int)) (h : 0 < p.length) : Still p (p.length - 1) := by
  have key : ∀ r, (∃ s, s ≤ r ∧ Still p s) ∨ r + 1 < kinds p (r + 1) := by
    intro r
    induction r with
    | zero =>
      by_cases hs : Still p 0
      · exact .inl ⟨0, Nat.le_refl _, hs⟩
      · right
        have := kinds_lt hs
        have := kinds_pos 0 h
        omega
    | succ r ih =>
      rcases ih with ⟨s, h1, h2⟩ | ih
      · exact .inl ⟨s, by omega, h2⟩
      · by_cases hs : Still p (r + 1)
        · exact .inl ⟨r + 1, Nat.le_refl _, hs⟩
        · right
          have := kinds_lt hs
          omega
  rcases key (p.length - 1) with ⟨s, h1, h2⟩ | h2
  · have : ∀ d, Still p (s + d) := by
      intro d
      induction d with
      | zero => exact h2
      | succ d ih => exact ih.next
    have := this (p.length - 1 - s)
    rwa [show s + (p.length - 1 - s) = p.length - 1 by omega] at this
  · have := kinds_le p (p.length - 1 + 1)
    omega
theorem still_len (p : List (List Int)) : Still p p.length := by
  rcases Nat.eq_zero_or_pos p.length with h | h
  · intro a b ha; omega
  · have := (still_pred p h).next
    rwa [show p.length - 1 + 1 = p.length by omega] at this

/-! ### The same set -/

/-- R tells pairs of nodes as equality does. -/
def Bis (p q : List (List Int)) (R : Nat → Nat → Prop) : Prop := ∀ a b, R a b → a < p.length ∧ b < q.length ∧
  (∀ k, k < p.length → arr p a k = true → ∃ j, j < q.length ∧ arr q b j = true ∧ R k j) ∧ (∀ j, j < q.length → arr q b j = true → ∃ k, k < p.length ∧ arr p a k = true ∧ R k j)
/-- Two nodes of two pictures draw the same set. -/
def Same (p : List (List Int)) (a : Nat) (q : List (List Int)) (b : Nat) : Prop := ∃ R, Bis p q R ∧ R a b
theorem Same.refl {p : List (List Int)} {a : Nat} (h : a < p.length) : Same p a p a :=
  ⟨fun x y => x = y ∧ x < p.length, fun x y ⟨e, hx⟩ => by subst e; exact ⟨hx, hx, fun k hk h => ⟨k, hk, h, rfl, hk⟩, fun k hk h => ⟨k, hk, h, rfl, hk⟩⟩, rfl, h⟩
theorem Same.symm {p q : List (List Int)} {a b : Nat} (h : Same p a q b) : Same q b p a := by
  obtain ⟨R, h, hab⟩ := h
  refine ⟨fun x y => R y x, fun x y hr => ?_, hab⟩
  obtain ⟨h1, h2, h3, h4⟩ := h y x hr
  exact ⟨h2, h1, h4, h3⟩
theorem Same.trans {p q s : List (List Int)} {a b c : Nat} (h : Same p a q b) (k : Same q b s c) : Same p a s c := by
  obtain ⟨R, h, hab⟩ := h
  obtain ⟨S, k, hbc⟩ := k
  refine ⟨fun x z => ∃ y, R x y ∧ S y z, fun x z ⟨y, hxy, hyz⟩ => ?_, b, hab, hbc⟩
  obtain ⟨h1, h2, h3, h4⟩ := h x y hxy
  obtain ⟨k1, k2, k3, k4⟩ := k y z hyz
  refine ⟨h1, k2, fun i hi hai => ?_, fun i hi hai => ?_⟩
  · obtain ⟨j, hj, e, hr⟩ := h3 i hi hai
    obtain ⟨m, hm, e', hs⟩ := k3 j hj e
    exact ⟨m, hm, e', j, hr, hs⟩
  · obtain ⟨j, hj, e, hs⟩ := k4 i hi hai
    obtain ⟨m, hm, e', hr⟩ := h4 j hj e
    exact ⟨m, hm, e', j, hr, hs⟩
theorem Same.lt {p q : List (List Int)} {a b : Nat} (h : Same p a q b) : a < p.length ∧ b < q.length := by
  obtain ⟨R, h, hab⟩ := h
  exact ⟨(h a b hab).1, (h a b hab).2.1⟩
theorem Same.to {p q : List (List Int)} {a b k : Nat} (h : Same p a q b) (hk : k < p.length) (ha : arr p a k = true) : ∃ j, j < q.length ∧ arr q b j = true ∧ Same p k q j := by
  obtain ⟨R, h, hab⟩ := h
  obtain ⟨j, h1, h2, h3⟩ := (h a b hab).2.2.1 k hk ha
  exact ⟨j, h1, h2, R, h, h3⟩
theorem same_bis (p q : List (List Int)) : Bis p q (fun a b => Same p a q b) := fun a b h => by
  refine ⟨h.lt.1, h.lt.2, fun k hk ha => h.to hk ha, fun j hj hb => ?_⟩
  obtain ⟨k, h1, h2, h3⟩ := h.symm.to hj hb
  exact ⟨k, h1, h2, h3.symm⟩
/-- To draw the same set it is enough that the members do. -/
theorem same_of_members {p q : List (List Int)} {a b : Nat} (ha : a < p.length) (hb : b < q.length) (h1 : ∀ k, k < p.length → arr p a k = true → ∃ j, j < q.length ∧ arr q b j = true ∧ Same p k q j)
    (h2 : ∀ j, j < q.length → arr q b j = true → ∃ k, k < p.length ∧ arr p a k = true ∧ Same p k q j) : Same p a q b := by
  refine ⟨fun x y => (x = a ∧ y = b) ∨ Same p x q y, fun x y h => ?_, .inl ⟨rfl, rfl⟩⟩
  rcases h with ⟨rfl, rfl⟩ | h
  · exact ⟨ha, hb, fun k hk hak => by obtain ⟨j, e1, e2, e3⟩ := h1 k hk hak; exact ⟨j, e1, e2, .inr e3⟩, fun k hk hak => by obtain ⟨j, e1, e2, e3⟩ := h2 k hk hak; exact ⟨j, e1, e2, .inr e3⟩⟩
  · obtain ⟨e1, e2, e3, e4⟩ := same_bis p q x y h
    exact ⟨e1, e2, fun k hk hak => by obtain ⟨j, e1, e2, e3⟩ := e3 k hk hak; exact ⟨j, e1, e2, .inr e3⟩, fun k hk hak => by obtain ⟨j, e1, e2, e3⟩ := e4 k hk hak; exact ⟨j, e1, e2, .inr e3⟩⟩
/-- What is left is equality. -/
theorem same_left {p : List (List Int)} {a b : Nat} (h : Same p a p b) (r : Nat) : left p r a b = true := by
  induction r generalizing a b with
  | zero => rfl
  | succ r ih =>
    rw [left_succ]
    refine ⟨ih h, mtch_iff.2 fun k hk ha => ?_, mtch_iff.2 fun k hk ha => ?_⟩
    · obtain ⟨j, hj, hb, hs⟩ := h.to hk ha
      exact ⟨j, hj, hb, ih hs⟩
    · obtain ⟨j, hj, hb, hs⟩ := h.symm.to hk ha
      exact ⟨j, hj, hb, ih hs⟩
theorem left_same {p : List (List Int)} {r a b : Nat} (hs : Still p r) (ha : a < p.length) (hb : b < p.length) (h : left p r a b = true) : Same p a p b := by
  refine ⟨fun x y => x < p.length ∧ y < p.length ∧ left p r x y = true, fun x y ⟨hx, hy, hl⟩ => ?_, ha, hb, h⟩
  have h1 := left_succ.1 (hs x y hx hy hl)
  refine ⟨hx, hy, fun k hk hak => ?_, fun k hk hak => ?_⟩
  · obtain ⟨j, e1, e2, e3⟩ := mtch_iff.1 h1.2.1 k hk hak
    exact ⟨j, e1, e2, hk, e1, e3⟩
  · obtain ⟨j, e1, e2, e3⟩ := mtch_iff.1 h1.2.2 k hk hak
    exact ⟨j, e1, e2, e1, hk, by rw [left_symm]; exact e3⟩
/-- Two nodes of one picture draw the same set. -/
def simB (p : List (List Int)) (a b : Nat) : Bool := left p p.length a b
theorem simB_iff {p : List (List Int)} {a b : Nat} (ha : a < p.length) (hb : b < p.length) : simB p a b = true ↔ Same p a p b :=
  ⟨left_same (still_len p) ha hb, fun h => same_left h _⟩
theorem left_iff {p : List (List Int)} {a b r : Nat} (ha : a < p.length) (hb : b < p.length) (hr : p.length ≤ r + 1) : left p r a b = true ↔ Same p a p b := by
  refine ⟨fun h => left_same (r := p.length - 1) (still_pred p (by omega)) ha hb (left_anti (by omega) h), fun h => same_left h _⟩
end Go.Hyp
