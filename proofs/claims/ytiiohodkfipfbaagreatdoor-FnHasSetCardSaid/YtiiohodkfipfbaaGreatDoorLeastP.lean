/- Least pictures: each set has one. No program in sight. -/
import Derived.Test.YtiiohodkfipfbaaGreatDoorJoinP
import Derived.Test.YtiiohodkfipfbaaGreatDoorTextP
import Derived.Test.YtiiohodkfipfbaaGreatDoorOrder
namespace Go.Hyp
theorem isOrd_iff {l : List Int} {n : Nat} : isOrdB l n = true ↔ l.length = n ∧ (∀ i, i < n → ∃ x : Nat, l.getD i 0 = x ∧ x < n) ∧ l.Nodup := by
  constructor
  · intro h
    have hlen : l.length = n := by
      unfold isOrdB at h
      simp only [Bool.and_eq_true, decide_eq_true_eq] at h
      exact h.2
    refine ⟨hlen, fun i hi => ?_, ?_⟩
    · obtain ⟨x, h1, h2, _⟩ := isOrd_at h hi
      exact ⟨x, h1, h2⟩
    · rw [List.nodup_iff_pairwise_ne, List.pairwise_iff_getElem]
      intro i j hi hj hij e
      unfold isOrdB at h
      simp only [Bool.and_eq_true, decide_eq_true_eq] at h
      have h1 := h.1
      unfold ordUp at h1
      rw [List.all_eq_true] at h1
      have h2 := h1 j (List.mem_range.2 hj)
      unfold ordAt at h2
      simp only [Bool.and_eq_true, decide_eq_true_eq, Bool.not_eq_true', decide_eq_false_iff_not] at h2
      apply h2.2.2
      rw [getD_lt hj, ← e, List.mem_take_iff_getElem]
      exact ⟨i, by omega, rfl⟩
  · rintro ⟨hl, hr, hn⟩
    unfold isOrdB ordUp
    simp only [Bool.and_eq_true, decide_eq_true_eq, List.all_eq_true, List.mem_range]
    refine ⟨fun i hi => ?_, hl⟩
    obtain ⟨x, e1, e2⟩ := hr i (by omega)
    unfold ordAt
    simp only [Bool.and_eq_true, decide_eq_true_eq, Bool.not_eq_true', decide_eq_false_iff_not]
    refine ⟨by omega, by omega, fun hm => ?_⟩
    rw [List.mem_take_iff_getElem] at hm
    obtain ⟨j, hj, e⟩ := hm
    rw [List.nodup_iff_pairwise_ne, List.pairwise_iff_getElem] at hn
    refine hn j i (by omega) hi (by omega) ?_
    rw [e, getD_lt hi]
/-- An order that keeps the first node first. -/
def Ord0 (o : List Int) (n : Nat) : Prop := isOrdB o n = true ∧ o.getD 0 0 = 0
/-- y is that of all pictures that x is in an order with the first node first whose text is first. -/
def Least (x y : List (List Int)) : Prop := (∃ o, Ord0 o x.length ∧ y = reordL x o) ∧ ∀ o, Ord0 o x.length → Op.bytesLess (textP (reordL x o)) (textP y) = false
theorem reordL_len (p : List (List Int)) (o : List Int) : (reordL p o).length = p.length := mat_len _ _ _
theorem reordL_sq (p : List (List Int)) (o : List Int) : Sq (reordL p o) := mat_sq _ _
theorem reordL_arr {p : List (List Int)} {o : List Int} {i k : Nat} (hi : i < p.length) (hk : k < p.length) : arr (reordL p o) i k = arr p (o.getD i 0).toNat (o.getD k 0).toNat := mat_arr _ _ _ _ _ hi hk
theorem Least.unique {x y z : List (List Int)} (h : Least x y) (k : Least x z) (h5 : x.length ≤ 10) : y = z := by
  obtain ⟨⟨o, ho, e⟩, hmin⟩ := h
  obtain ⟨⟨o', ho', e'⟩, hmin'⟩ := k
  have h1 := hmin' o ho
  have h2 := hmin o' ho'
  rw [← e] at h1
  rw [← e'] at h2
  rcases less_tri (textP y) (textP z) with h | h | h
  · rw [h1] at h; cases h
  · subst e; subst e'
    exact textP_inj (reordL_sq _ _) (reordL_sq _ _) (by rw [reordL_len, reordL_len]) (by rw [reordL_len]; exact h5) h
  · rw [h2] at h; cases h
/-- An order of a picture's picture is an order of the picture. -/
theorem Iso.order {x x' : List (List Int)} {f : Nat → Nat} (h : Iso x x' f) {o : List Int} (ho : Ord0 o x'.length) (hpos : 0 < x'.length) : ∃ o2, Ord0 o2 x.length ∧ reordL x' o = reordL x o2 := by
  obtain ⟨h1, h0⟩ := ho
  obtain ⟨hl, hr, hn⟩ := isOrd_iff.1 h1
  have hget : ∀ i, i < x'.length → (o.map fun v => ((f v.toNat : Nat) : Int)).getD i 0 = ((f (o.getD i 0).toNat : Nat) : Int) := fun i hi => by
    simp [List.getD, show i < o.length by omega]
  refine ⟨o.map fun v => ((f v.toNat : Nat) : Int), ⟨isOrd_iff.2 ⟨by rw [List.length_map, hl, h.len], fun i hi => ?_, ?_⟩, ?_⟩, ?_⟩
  · have hi' : i < x'.length := by rw [← h.len]; exact hi
    obtain ⟨v, e1, e2⟩ := hr i hi'
    exact ⟨f v, by rw [hget i hi', e1, Int.toNat_natCast], h.lt v e2⟩
  · rw [List.nodup_iff_pairwise_ne, List.pairwise_iff_getElem] at hn ⊢
    intro i j hi hj hij e
    rw [List.length_map] at hi hj
    simp only [List.getElem_map] at e
    obtain ⟨v, e1, e2⟩ := hr i (by omega)
    obtain ⟨v', e1', e2'⟩ := hr j (by omega)
    rw [getD_lt hi] at e1
    rw [getD_lt hj] at e1'
    rw [e1, e1', Int.toNat_natCast, Int.toNat_natCast] at e
    have := h.inj v v' e2 e2' (by omega)
    exact hn i j hi hj hij (by rw [e1, e1', this])
  · rw [hget 0 hpos, h0]
    have := h.zero
    simp [this]
  · refine (reordL_sq _ _).ext (reordL_sq _ _) (by rw [reordL_len, reordL_len, h.len]) fun i k hi hk => ?_
    rw [reordL_len] at hi hk
    obtain ⟨v, e1, e2⟩ := hr i hi
    obtain ⟨v', e1', e2'⟩ := hr k hk
    rw [reordL_arr hi hk, reordL_arr (by rw [h.len]; exact hi) (by rw [h.len]; exact hk), hget i hi, hget k hk, e1, e1', Int.toNat_natCast, Int.toNat_natCast, Int.toNat_natCast, Int.toNat_natCast]
    exact h.arrow v v' e2 e2'
theorem Least.iso {x x' y y' : List (List Int)} {f g : Nat → Nat} (hf : Iso x x' f) (hg : Iso x' x g) (h : Least x y) (h' : Least x' y') (hpos : 0 < x.length) (h5 : x.length ≤ 10) : y = y' := by
  obtain ⟨⟨o, ho, e⟩, hmin⟩ := h
  obtain ⟨⟨o', ho', e'⟩, hmin'⟩ := h'
  have hpos' : 0 < x'.length := by rw [← hf.len]; exact hpos
  obtain ⟨o2, ho2, e2⟩ := hf.order ho' hpos'
  obtain ⟨o3, ho3, e3⟩ := hg.order ho hpos
  have h1 := hmin o2 ho2
  have h2 := hmin' o3 ho3
  rw [← e2, ← e'] at h1
  rw [← e3, ← e] at h2
  rcases less_tri (textP y) (textP y') with h | h | h
  · rw [h2] at h; cases h
  · subst e; subst e'
    exact textP_inj (reordL_sq _ _) (reordL_sq _ _) (by rw [reordL_len, reordL_len, hf.len]) (by rw [reordL_len]; exact h5) h
  · rw [h1] at h; cases h
/-- A picture in another order draws the same sets. -/
theorem reord_same {x : List (List Int)} {o : List Int} (ho : isOrdB o x.length = true) {b : Nat} (hb : b < x.length) : Same x (o.getD b 0).toNat (reordL x o) b := by
  obtain ⟨hl, hr, hn⟩ := isOrd_iff.1 ho
  have hcov := (ord_cover hl hr).1 ho
  refine ⟨fun u c => c < x.length ∧ u = (o.getD c 0).toNat, ?_, hb, rfl⟩
  rintro u c ⟨hc, rfl⟩
  obtain ⟨v, e1, e2⟩ := hr c hc
  refine ⟨by rw [e1, Int.toNat_natCast]; exact e2, by rw [reordL_len]; exact hc, fun k hk huk => ?_, fun d hd hcd => ?_⟩
  · obtain ⟨d, hd⟩ := List.mem_iff_getElem?.1 (hcov k hk)
    obtain ⟨hd1, hd2⟩ := List.getElem?_eq_some_iff.1 hd
    have hdk : (o.getD d 0).toNat = k := by rw [getD_lt hd1, hd2, Int.toNat_natCast]
    exact ⟨d, by rw [reordL_len]; omega, by rw [reordL_arr hc (by omega), hdk]; exact huk, by omega, hdk.symm⟩
  · rw [reordL_len] at hd
    rw [reordL_arr hc hd] at hcd
    obtain ⟨v', e1', e2'⟩ := hr d hd
    exact ⟨_, by rw [e1', Int.toNat_natCast]; exact e2', hcd, hd, rfl⟩
theorem Least.same {x y : List (List Int)} (h : Least x y) (hpos : 0 < x.length) : Same x 0 y 0 := by
  obtain ⟨⟨o, ⟨ho, h0⟩, rfl⟩, _⟩ := h
  have := reord_same ho hpos
  rw [h0] at this
  exact this
theorem Least.len {x y : List (List Int)} (h : Least x y) : y.length = x.length ∧ Sq y := by
  obtain ⟨⟨o, _, rfl⟩, _⟩ := h
  exact ⟨reordL_len _ _, reordL_sq _ _⟩
/-- THE LAW OF LEAST PICTURES: two nodes draw the same set exactly if their least pictures are equal. -/
theorem least_same {p q : List (List Int)} {i j : Nat} {l m : List Nat} {y z : List (List Int)} (hi : i < p.length) (hj : j < q.length) (hp5 : p.length ≤ 10) (hl : Fit p i l) (hm : Fit q j m) (hy : Least (joinM p l) y) (hz : Least (joinM q m) z) :
    y = z ↔ Same p i q j := by
  have h1 := hl.first hi
  have h2 := hm.first hj
  have hposx : 0 < (joinM p l).length := by rw [joinM_len]; exact hl.pos
  have hposx' : 0 < (joinM q m).length := by rw [joinM_len]; exact hm.pos
  constructor
  · rintro rfl
    exact (h1.trans (hy.same hposx)).trans ((h2.trans (hz.same hposx')).symm)
  · intro hs
    have hss : Same (joinM p l) 0 (joinM q m) 0 := (h1.symm.trans hs).trans h2
    obtain ⟨f, hf⟩ := iso_of_same hl.red hm.red (hl.acc hi) (hm.acc hj) hss
    obtain ⟨g, hg⟩ := iso_of_same hm.red hl.red (hm.acc hj) (hl.acc hi) hss.symm
    have := hl.len
    exact Least.iso hf hg hy hz hposx (by rw [joinM_len]; omega)
end Go.Hyp
