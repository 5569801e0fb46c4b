/- The least pictures of sets that are put together, and what is true of them. No program in sight. -/
import Derived.Test.YtiiohodkfipfbaaGreatDoorSetP
namespace Go.Hyp
/-- It has at most as many nodes as a picture may have. -/
def putB (P : List (List Int)) (m : Nat → Bool) : Bool := decide ((joinedL (putL P m) 0).length ≤ 5)
/-- The least picture of the set with these members, if it is told. -/
def putR (P : List (List Int)) (m : Nat → Bool) : List (List Int) := if putB P m = true then leastC (putL P m) 0 else []
theorem putR_no {P : List (List Int)} {m : Nat → Bool} (h : putB P m = false) : putR P m = [] := by unfold putR; rw [h]; rfl
theorem putR_yes {P : List (List Int)} {m : Nat → Bool} (h : putB P m = true) : putR P m = leastC (putL P m) 0 := by unfold putR; rw [h]; rfl
theorem put_pos (P : List (List Int)) (m : Nat → Bool) : 0 < (putL P m).length := by rw [putL_len]; omega
theorem putB_len {P : List (List Int)} {m : Nat → Bool} (h : putB P m = true) : (joinedL (putL P m) 0).length ≤ 5 := of_decide_eq_true h
theorem putR_pic {P : List (List Int)} {m : Nat → Bool} (h : putB P m = true) : picB (putR P m) = true := by rw [putR_yes h]; exact leastC_pic (put_pos P m) (putB_len h)
theorem putR_draws {P : List (List Int)} {m : Nat → Bool} (h : putB P m = true) : Same (putL P m) 0 (putR P m) 0 := by rw [putR_yes h]; exact leastC_draws (put_pos P m)
theorem putR_small (P : List (List Int)) (m : Nat → Bool) : (putR P m).length ≤ 1048576 ∧ lens (putR P m) ≤ 1048576 := by
  cases h : putB P m
  · rw [putR_no h]; exact ⟨by simp, by show 0 ≤ _; omega⟩
  · have h1 := picB_sq (putR_pic h)
    exact sq_small h1.1 h1.2.2
/-- Sets that are the same are put together to the same picture. -/
theorem put_eq {P Q : List (List Int)} {m m' : Nat → Bool} (h : Same (putL P m) 0 (putL Q m') 0) : putB P m = putB Q m' ∧ putR P m = putR Q m' := by
  have e : putB P m = putB Q m' := by unfold putB; rw [joined_same_len (put_pos P m) (put_pos Q m') h]
  refine ⟨e, ?_⟩
  cases hb : putB P m
  · rw [putR_no hb, putR_no (e ▸ hb)]
  · rw [putR_yes hb, putR_yes (e ▸ hb)]
    exact (leastC_same (put_pos P m) (put_pos Q m') (by have := putB_len hb; omega)).2 h
/-- A set that a picture draws is told. -/
theorem put_told {P p : List (List Int)} {m : Nat → Bool} {i : Nat} (hi : i < p.length) (h5 : p.length ≤ 5) (h : Same (putL P m) 0 p i) : putB P m = true := by
  unfold putB
  rw [joined_same_len (put_pos P m) hi h]
  have := (joinedL_fit hi).len
  exact decide_eq_true (by omega)
theorem put_alike {P : List (List Int)} {m m' : Nat → Bool} (h : ∀ v, v < P.length → m v = m' v) : putL P m = putL P m' := by
  refine mat_congr fun i j hi hj => ?_
  unfold putF
  by_cases h1 : 1 ≤ j
  · by_cases h0 : i = 0
    · rw [if_pos h0, if_pos h0, h (j - 1) (by omega)]
    · rw [if_neg h0, if_neg h0]
  · rw [decide_eq_false h1]; rfl
theorem putR_alike {P : List (List Int)} {m m' : Nat → Bool} (h : ∀ v, v < P.length → m v = m' v) : putB P m = putB P m' ∧ putR P m = putR P m' := by
  unfold putR putB
  rw [put_alike h]
  exact ⟨rfl, rfl⟩
/-! ### the least of the least -/
theorem node0 {x : List (List Int)} (h : picB x = true) : nodeB x 0 = true := by
  have := (picB_sq h).2
  unfold nodeB
  rw [h, decide_eq_true (by omega), decide_eq_true (by omega)]; rfl
/-- A picture is the least one of its first node. -/
def leastB (p : List (List Int)) : Bool := picB p && decide (leastC p 0 = p)
theorem leastB_least {p : List (List Int)} {i : Nat} (hi : i < p.length) (h5 : (joinedL p i).length ≤ 5) : leastB (leastC p i) = true := by
  have hp := leastC_pic hi h5
  have hl := (picB_sq hp).2.1
  unfold leastB
  rw [hp]
  have hs := leastC_draws hi
  have := ((leastC_same hi (j := 0) (q := leastC p i) (by omega) (by omega)).2 hs)
  rw [← this]
  simp
theorem leastB_put {P : List (List Int)} {m : Nat → Bool} (h : putB P m = true) : leastB (putR P m) = true := by
  rw [putR_yes h]
  exact leastB_least (put_pos P m) (putB_len h)
/-! ### both pictures beside each other -/
theorem bes_mem {p q : List (List Int)} {v : Nat} (hv : v < (besL p q).length) : (v < p.length ∧ Same p v (besL p q) v) ∨ (p.length ≤ v ∧ v - p.length < q.length ∧ Same q (v - p.length) (besL p q) v) := by
  rw [besL_len] at hv
  by_cases h : v < p.length
  · exact .inl ⟨h, bes_left h⟩
  · refine .inr ⟨by omega, by omega, ?_⟩
    have := bes_right (p := p) (q := q) (i := v - p.length) (by omega)
    rwa [show p.length + (v - p.length) = v by omega] at this
/-! ### pairs -/
def pairF (p : List (List Int)) (a b v : Nat) : Bool := v == a || v == p.length + b
def pairB (p : List (List Int)) (a : Nat) (q : List (List Int)) (b : Nat) : Bool := putB (besL p q) (pairF p a b)
def pairR (p : List (List Int)) (a : Nat) (q : List (List Int)) (b : Nat) : List (List Int) := putR (besL p q) (pairF p a b)
theorem pairF_iff {p : List (List Int)} {a b v : Nat} : pairF p a b v = true ↔ v = a ∨ v = p.length + b := by unfold pairF; simp
theorem pair_is {p q x : List (List Int)} {a b j : Nat} (ha : a < p.length) (hb : b < q.length) (hj : j < x.length) (h1 : ∃ u, Mem x j u ∧ Same p a x u) (h2 : ∃ u, Mem x j u ∧ Same q b x u) (h3 : ∀ u, Mem x j u → Same p a x u ∨ Same q b x u) : Same (putL (besL p q) (pairF p a b)) 0 x j := by
  refine put_is hj (fun v hv hm => ?_) (fun u hu => ?_)
  · rcases pairF_iff.1 hm with rfl | rfl
    · obtain ⟨u, hu, hs⟩ := h1; exact ⟨u, hu, (bes_left ha).symm.trans hs⟩
    · obtain ⟨u, hu, hs⟩ := h2; exact ⟨u, hu, (bes_right hb).symm.trans hs⟩
  · rcases h3 u hu with hs | hs
    · exact ⟨a, by rw [besL_len]; omega, pairF_iff.2 (.inl rfl), (bes_left ha).symm.trans hs⟩
    · exact ⟨p.length + b, by rw [besL_len]; omega, pairF_iff.2 (.inr rfl), (bes_right hb).symm.trans hs⟩
theorem pair_has {p q x : List (List Int)} {a b j : Nat} (ha : a < p.length) (hb : b < q.length) (h : Same (putL (besL p q) (pairF p a b)) 0 x j) :
    (∃ u, Mem x j u ∧ Same p a x u) ∧ (∃ u, Mem x j u ∧ Same q b x u) ∧ ∀ u, Mem x j u → Same p a x u ∨ Same q b x u := by
  obtain ⟨h1, h2⟩ := put_has h
  refine ⟨?_, ?_, fun u hu => ?_⟩
  · obtain ⟨u, hu, hs⟩ := h1 a (by rw [besL_len]; omega) (pairF_iff.2 (.inl rfl))
    exact ⟨u, hu, (bes_left ha).trans hs⟩
  · obtain ⟨u, hu, hs⟩ := h1 (p.length + b) (by rw [besL_len]; omega) (pairF_iff.2 (.inr rfl))
    exact ⟨u, hu, (bes_right hb).trans hs⟩
  · obtain ⟨v, hv, hm, hs⟩ := h2 u hu
    rcases pairF_iff.1 hm with rfl | rfl
    · exact .inl ((bes_left ha).trans hs)
    · exact .inr ((bes_right hb).trans hs)
theorem pair_swap {p q : List (List Int)} {a b : Nat} (ha : a < p.length) (hb : b < q.length) : pairB p a q b = pairB q b p a ∧ pairR p a q b = pairR q b p a := by
  refine put_eq ?_
  obtain ⟨h1, h2, h3⟩ := pair_has hb ha (Same.refl (put_pos (besL q p) (pairF q b a)))
  exact pair_is ha hb (put_pos _ _) h2 h1 fun u hu => (h3 u hu).symm
theorem hasL_mem {p q : List (List Int)} {i j : Nat} (hj : j < q.length) : hasL p i q j = true ↔ ∃ v, Mem p i v ∧ Same p v q j := by
  rw [hasL_iff hj]
  constructor
  · rintro ⟨v, h1, h2, h3⟩; exact ⟨v, ⟨h1, h2⟩, h3⟩
  · rintro ⟨v, h1, h3⟩; exact ⟨v, h1.1, h1.2, h3⟩
/-- How many members a pair has. -/
theorem pair_card {p q x : List (List Int)} {a b : Nat} (ha : a < p.length) (hb : b < q.length) (hx : 0 < x.length) (h : Same (putL (besL p q) (pairF p a b)) 0 x 0) : cardN x 0 = if sameB p a q b = true then 1 else 2 := by
  obtain ⟨⟨u, hu, h1⟩, ⟨v, hv, h2⟩, h3⟩ := pair_has ha hb h
  split
  · rename_i hs
    have hs := (sameB_iff ha hb).1 hs
    refine card_eq hx (L := [u]) ⟨fun y hy => ?_, by simp, fun y hy => ⟨u, by simp, ?_⟩⟩
    · simp at hy; subst hy; exact hu
    · rcases h3 y hy with h4 | h4
      · exact h1.symm.trans h4
      · exact h1.symm.trans (hs.trans h4)
  · rename_i hs
    have hns : ¬ Same p a q b := fun h => hs ((sameB_iff ha hb).2 h)
    refine card_eq hx (L := [u, v]) ⟨fun y hy => ?_, ?_, fun y hy => ?_⟩
    · simp at hy
      rcases hy with rfl | rfl
      · exact hu
      · exact hv
    · simp
      exact fun h4 => hns (h1.trans (h4.trans h2.symm))
    · rcases h3 y hy with h4 | h4
      · exact ⟨u, by simp, h1.symm.trans h4⟩
      · exact ⟨v, by simp, h2.symm.trans h4⟩
/-- The set that has itself alone. -/
def ownP : List (List Int) := [[1]]
theorem ownP_mem {u : Nat} : Mem ownP 0 u ↔ u = 0 := by
  constructor
  · rintro ⟨h, _⟩; unfold ownP at h; simp at h; exact h
  · rintro rfl; exact ⟨by decide, by decide⟩
theorem pair_own : pairB ownP 0 ownP 0 = true ∧ pairR ownP 0 ownP 0 = ownP := by
  have hs : Same (putL (besL ownP ownP) (pairF ownP 0 0)) 0 ownP 0 :=
    pair_is (by decide) (by decide) (by decide) ⟨0, ownP_mem.2 rfl, Same.refl (by decide)⟩ ⟨0, ownP_mem.2 rfl, Same.refl (by decide)⟩ fun u hu => by
      rw [ownP_mem.1 hu]; exact .inl (Same.refl (by decide))
  have hb : pairB ownP 0 ownP 0 = true := put_told (p := ownP) (i := 0) (by decide) (by decide) hs
  refine ⟨hb, ?_⟩
  have hb2 : putB (besL ownP ownP) (pairF ownP 0 0) = true := hb
  show putR (besL ownP ownP) (pairF ownP 0 0) = ownP
  rw [putR_yes hb2]
  have h5 := putB_len hb2
  have e := (leastC_same (put_pos _ _) (p := putL (besL ownP ownP) (pairF ownP 0 0)) (q := ownP) (j := 0) (by decide) (by omega)).2 hs
  rw [e]
  have hf := joinedL_fit (p := ownP) (i := 0) (by decide)
  have hlen : (leastC ownP 0).length = 1 := by
    rw [leastC_len (by decide)]
    have := hf.len
    have := hf.pos
    have e1 : ownP.length = 1 := rfl
    omega
  refine (leastC_sq (by decide)).ext (q := ownP) (show rowsB 1 ownP = true by decide) hlen (fun i j hi hj => ?_)
  have hi0 : i = 0 := by omega
  have hj0 : j = 0 := by omega
  subst hi0 hj0
  have hd := leastC_draws (p := ownP) (i := 0) (by decide)
  obtain ⟨u, hu, hau, _⟩ := hd.to (k := 0) (by decide) (by decide)
  have : u = 0 := by omega
  subst this
  rw [hau]
  decide
/-! ### unions -/
def togF (p q : List (List Int)) (a b v : Nat) : Bool := arr (besL p q) a v || arr (besL p q) (p.length + b) v
def togB (p : List (List Int)) (a : Nat) (q : List (List Int)) (b : Nat) : Bool := putB (besL p q) (togF p q a b)
def togR (p : List (List Int)) (a : Nat) (q : List (List Int)) (b : Nat) : List (List Int) := putR (besL p q) (togF p q a b)
theorem togF_iff {p q : List (List Int)} {a b v : Nat} (ha : a < p.length) (hb : b < q.length) (hv : v < p.length + q.length) : togF p q a b v = true ↔ (v < p.length ∧ arr p a v = true) ∨ (p.length ≤ v ∧ arr q b (v - p.length) = true) := by
  unfold togF
  rw [besL_left ha hv, besL_right hb hv]
  simp
theorem tog_is {p q x : List (List Int)} {a b j : Nat} (ha : a < p.length) (hb : b < q.length) (hj : j < x.length) (h1 : ∀ v, Mem p a v → ∃ u, Mem x j u ∧ Same p v x u) (h2 : ∀ v, Mem q b v → ∃ u, Mem x j u ∧ Same q v x u)
    (h3 : ∀ u, Mem x j u → (∃ v, Mem p a v ∧ Same p v x u) ∨ (∃ v, Mem q b v ∧ Same q v x u)) : Same (putL (besL p q) (togF p q a b)) 0 x j := by
  refine put_is hj (fun v hv hm => ?_) (fun u hu => ?_)
  · rw [besL_len] at hv
    rcases (togF_iff ha hb hv).1 hm with ⟨hl, he⟩ | ⟨hl, he⟩
    · obtain ⟨u, hu, hs⟩ := h1 v ⟨hl, he⟩; exact ⟨u, hu, (bes_left hl).symm.trans hs⟩
    · obtain ⟨u, hu, hs⟩ := h2 (v - p.length) ⟨by omega, he⟩
      have := bes_right (p := p) (q := q) (i := v - p.length) (by omega)
      rw [show p.length + (v - p.length) = v by omega] at this
      exact ⟨u, hu, this.symm.trans hs⟩
  · rcases h3 u hu with ⟨v, hv, hs⟩ | ⟨v, hv, hs⟩
    · exact ⟨v, by rw [besL_len]; have := hv.1; omega, (togF_iff ha hb (by have := hv.1; omega)).2 (.inl ⟨hv.1, hv.2⟩), (bes_left hv.1).symm.trans hs⟩
    · have hl := hv.1
      refine ⟨p.length + v, by rw [besL_len]; omega, (togF_iff ha hb (by omega)).2 (.inr ⟨by omega, ?_⟩), (bes_right hv.1).symm.trans hs⟩
      rw [show p.length + v - p.length = v by omega]; exact hv.2
theorem tog_has {p q x : List (List Int)} {a b j : Nat} (ha : a < p.length) (hb : b < q.length) (h : Same (putL (besL p q) (togF p q a b)) 0 x j) :
    (∀ v, Mem p a v → ∃ u, Mem x j u ∧ Same p v x u) ∧ (∀ v, Mem q b v → ∃ u, Mem x j u ∧ Same q v x u) ∧ ∀ u, Mem x j u → (∃ v, Mem p a v ∧ Same p v x u) ∨ (∃ v, Mem q b v ∧ Same q v x u) := by
  obtain ⟨h1, h2⟩ := put_has h
  refine ⟨fun v hv => ?_, fun v hv => ?_, fun u hu => ?_⟩
  · obtain ⟨u, hu, hs⟩ := h1 v (by rw [besL_len]; have := hv.1; omega) ((togF_iff ha hb (by have := hv.1; omega)).2 (.inl ⟨hv.1, hv.2⟩))
    exact ⟨u, hu, (bes_left hv.1).trans hs⟩
  · have hl := hv.1
    obtain ⟨u, hu, hs⟩ := h1 (p.length + v) (by rw [besL_len]; omega) ((togF_iff ha hb (by omega)).2 (.inr ⟨by omega, by rw [show p.length + v - p.length = v by omega]; exact hv.2⟩))
    exact ⟨u, hu, (bes_right hv.1).trans hs⟩
  · obtain ⟨v, hv, hm, hs⟩ := h2 u hu
    rw [besL_len] at hv
    rcases (togF_iff ha hb hv).1 hm with ⟨hl, he⟩ | ⟨hl, he⟩
    · exact .inl ⟨v, ⟨hl, he⟩, (bes_left hl).trans hs⟩
    · have := bes_right (p := p) (q := q) (i := v - p.length) (by omega)
      rw [show p.length + (v - p.length) = v by omega] at this
      exact .inr ⟨v - p.length, ⟨by omega, he⟩, this.trans hs⟩
theorem tog_swap {p q : List (List Int)} {a b : Nat} (ha : a < p.length) (hb : b < q.length) : togB p a q b = togB q b p a ∧ togR p a q b = togR q b p a := by
  refine put_eq ?_
  obtain ⟨h1, h2, h3⟩ := tog_has hb ha (Same.refl (put_pos (besL q p) (togF q p b a)))
  exact tog_is ha hb (put_pos _ _) h2 h1 fun u hu => (h3 u hu).symm
theorem tog_own {p : List (List Int)} {a : Nat} (ha : a < p.length) : Same (putL (besL p p) (togF p p a a)) 0 p a :=
  tog_is ha ha ha (fun v hv => ⟨v, hv, Same.refl hv.1⟩) (fun v hv => ⟨v, hv, Same.refl hv.1⟩) fun u hu => .inl ⟨u, hu, Same.refl hu.1⟩
theorem inL_mem {p q : List (List Int)} {i j : Nat} : inL p i q j = true ↔ ∀ v, Mem p i v → ∃ u, Mem q j u ∧ Same q u p v := by
  rw [inL_iff]
  constructor
  · intro h v hv
    obtain ⟨u, h1, h2, h3⟩ := h v hv.1 hv.2
    exact ⟨u, ⟨h1, h2⟩, h3⟩
  · intro h v h1 h2
    obtain ⟨u, h3, h4⟩ := h v ⟨h1, h2⟩
    exact ⟨u, h3.1, h3.2, h4⟩
theorem tog_card {p q x : List (List Int)} {a b j : Nat} (ha : a < p.length) (hb : b < q.length) (h : Same (putL (besL p q) (togF p q a b)) 0 x j) : cardN x j ≤ cardN p a + cardN q b :=
  card_union fun u hu => by
    rcases (tog_has ha hb h).2.2 u hu with ⟨v, hv, hs⟩ | ⟨v, hv, hs⟩
    · exact .inl ⟨v, hv, hs.symm⟩
    · exact .inr ⟨v, hv, hs.symm⟩
/-! ### sets without one -/
def woF (p : List (List Int)) (a : Nat) (q : List (List Int)) (b v : Nat) : Bool := arr p a v && !sameB p v q b
def woB (p : List (List Int)) (a : Nat) (q : List (List Int)) (b : Nat) : Bool := putB p (woF p a q b)
def woR (p : List (List Int)) (a : Nat) (q : List (List Int)) (b : Nat) : List (List Int) := putR p (woF p a q b)
theorem woF_iff {p q : List (List Int)} {a b v : Nat} (hv : v < p.length) (hb : b < q.length) : woF p a q b v = true ↔ Mem p a v ∧ ¬ Same p v q b := by
  unfold woF Mem
  rw [← sameB_iff hv hb]
  simp [hv]
theorem wo_has {p q x : List (List Int)} {a b j : Nat} (hb : b < q.length) (h : Same (putL p (woF p a q b)) 0 x j) :
    (∀ v, Mem p a v → ¬ Same p v q b → ∃ u, Mem x j u ∧ Same x u p v) ∧ (∀ u, Mem x j u → ∃ v, Mem p a v ∧ Same x u p v ∧ ¬ Same p v q b) := by
  obtain ⟨h1, h2⟩ := put_has h
  refine ⟨fun v hv hn => ?_, fun u hu => ?_⟩
  · obtain ⟨u, hu, hs⟩ := h1 v hv.1 ((woF_iff hv.1 hb).2 ⟨hv, hn⟩)
    exact ⟨u, hu, hs.symm⟩
  · obtain ⟨v, hv, hm, hs⟩ := h2 u hu
    obtain ⟨h3, h4⟩ := (woF_iff hv hb).1 hm
    exact ⟨v, h3, hs.symm, h4⟩
theorem wo_not {p q x : List (List Int)} {a b j : Nat} (hb : b < q.length) (h : Same (putL p (woF p a q b)) 0 x j) : hasL x j q b = false := by
  cases e : hasL x j q b
  · rfl
  · obtain ⟨u, hu, hs⟩ := (hasL_mem hb).1 e
    obtain ⟨v, _, h1, h2⟩ := (wo_has hb h).2 u hu
    exact absurd (h1.symm.trans hs) h2
theorem wo_in {p q x : List (List Int)} {a b j : Nat} (hb : b < q.length) (h : Same (putL p (woF p a q b)) 0 x j) : inL x j p a = true :=
  inL_mem.2 fun u hu => by
    obtain ⟨v, h1, h2, _⟩ := (wo_has hb h).2 u hu
    exact ⟨v, h1, h2.symm⟩
theorem wo_card {p q x : List (List Int)} {a b j : Nat} (hj : j < x.length) (hb : b < q.length) (h : Same (putL p (woF p a q b)) 0 x j) : cardN x j + (if hasL p a q b = true then 1 else 0) = cardN p a := by
  obtain ⟨h1, h2⟩ := wo_has hb h
  obtain ⟨c1, c2⟩ := card_without hj hb h2 h1
  split
  · rename_i e
    exact c1 ((hasL_mem hb).1 e)
  · rename_i e
    exact c2 fun v hv hs => e ((hasL_mem hb).2 ⟨v, hv, hs⟩)
theorem wo_same {p q x : List (List Int)} {a b j : Nat} (ha : a < p.length) (hb : b < q.length) (h : Same (putL p (woF p a q b)) 0 x j) (hn : hasL p a q b = false) : Same x j p a := by
  refine h.symm.trans (put_is ha (fun v hv hm => ?_) (fun u hu => ?_))
  · exact ⟨v, ((woF_iff hv hb).1 hm).1, Same.refl hv⟩
  · refine ⟨u, hu.1, (woF_iff hu.1 hb).2 ⟨hu, fun hs => ?_⟩, Same.refl hu.1⟩
    rw [(hasL_mem hb).2 ⟨u, hu, hs⟩] at hn; cases hn
end Go.Hyp
