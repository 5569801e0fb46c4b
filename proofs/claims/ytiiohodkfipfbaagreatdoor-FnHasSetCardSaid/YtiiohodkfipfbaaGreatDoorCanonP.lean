/- The least picture of a node, found by going through all orders; and two pictures laid beside each other. No program in sight. -/
import Derived.Test.YtiiohodkfipfbaaGreatDoorOrdP
namespace Go.Hyp
/-! ### going through orders -/
/-- The better one of a picture in an order and the best so far. -/
def better (x b : List (List Int)) (o : List Int) : List (List Int) := if Op.bytesLess (textP (reordL x o)) (textP b) = true then reordL x o else b
def bestK (x : List (List Int)) (O : List (List Int)) (k : Nat) : List (List Int) := (O.take k).foldl (better x) x
theorem bestK_zero (x : List (List Int)) (O : List (List Int)) : bestK x O 0 = x := rfl
theorem bestK_succ {x : List (List Int)} {O : List (List Int)} {k : Nat} (h : k < O.length) : bestK x O (k + 1) = better x (bestK x O k) O[k] := by
  unfold bestK
  rw [List.take_succ_eq_append_getElem h, List.foldl_append]
  rfl
/-- The order that changes nothing. -/
def idO (n : Nat) : List Int := (List.range n).map Int.ofNat
theorem idO_get (n i : Nat) (h : i < n) : (idO n).getD i 0 = (i : Int) := by simp [idO, List.getD, h]
theorem idO_ord {n : Nat} (h : 1 ≤ n) : Ord0 (idO n) n := by
  refine ⟨isOrd_iff.2 ⟨by simp [idO], fun i hi => ⟨i, idO_get n i hi, hi⟩, ?_⟩, by rw [idO_get n 0 (by omega)]; rfl⟩
  unfold idO
  rw [List.nodup_iff_pairwise_ne, List.pairwise_map]
  exact List.pairwise_lt_range.imp fun {a b} (hab : a < b) => fun (e : Int.ofNat a = Int.ofNat b) => by
    have := Int.ofNat.inj e
    omega
theorem reord_id {x : List (List Int)} (hs : Sq x) : reordL x (idO x.length) = x := by
  refine (reordL_sq _ _).ext hs (reordL_len _ _) fun i j hi hj => ?_
  rw [reordL_len] at hi hj
  rw [reordL_arr hi hj, idO_get _ _ hi, idO_get _ _ hj, Int.toNat_natCast, Int.toNat_natCast]
theorem fold_best (x : List (List Int)) : ∀ O : List (List Int), ((O.foldl (better x) x = x) ∨ ∃ o ∈ O, O.foldl (better x) x = reordL x o) ∧ (∀ o ∈ O, Op.bytesLess (textP (reordL x o)) (textP (O.foldl (better x) x)) = false) := by
  intro O
  induction O using rev_ind2 with
  | nil => exact ⟨.inl rfl, fun o ho => by simp at ho⟩
  | snoc O o ih =>
    have e : (O ++ [o]).foldl (better x) x = better x (O.foldl (better x) x) o := by rw [List.foldl_append]; rfl
    rw [e]
    obtain ⟨B, hB⟩ : ∃ B, B = O.foldl (better x) x := ⟨_, rfl⟩
    rw [← hB] at ih ⊢
    unfold better
    cases h : Op.bytesLess (textP (reordL x o)) (textP B)
    · rw [if_neg (by simp)]
      refine ⟨?_, fun o' ho' => ?_⟩
      · rcases ih.1 with h1 | ⟨o1, h1, h2⟩
        · exact .inl h1
        · exact .inr ⟨o1, by simp [h1], h2⟩
      · rcases List.mem_append.1 ho' with h1 | h1
        · exact ih.2 o' h1
        · simp at h1; subst h1; exact h
    · rw [if_pos rfl]
      refine ⟨.inr ⟨o, by simp, rfl⟩, fun o' ho' => ?_⟩
      rcases List.mem_append.1 ho' with h1 | h1
      · cases h2 : Op.bytesLess (textP (reordL x o')) (textP (reordL x o))
        · rfl
        · have := less_trans _ _ _ h2 h
          rw [ih.2 o' h1] at this; cases this
      · simp at h1; subst h1; exact less_irrefl _
/-- The least of all pictures that x is in an order with the first node first. -/
def leastL (x : List (List Int)) : List (List Int) := bestK x (ords x.length (x.length - 1)) (ords x.length (x.length - 1)).length
theorem leastL_least {x : List (List Int)} (hs : Sq x) (h1 : 1 ≤ x.length) : Least x (leastL x) := by
  have h := fold_best x (ords x.length (x.length - 1))
  have e : leastL x = (ords x.length (x.length - 1)).foldl (better x) x := by
    unfold leastL bestK
    rw [List.take_of_length_le (Nat.le_refl _)]
  rw [e]
  refine ⟨?_, fun o ho => h.2 o ((ords_all h1 o).2 ho)⟩
  rcases h.1 with h2 | ⟨o, ho, h2⟩
  · exact ⟨idO x.length, idO_ord h1, by rw [h2, reord_id hs]⟩
  · exact ⟨o, (ords_all h1 o).1 ho, h2⟩
/-- All stops of the way are pictures of one size. -/
theorem bestK_sq {x : List (List Int)} (hs : Sq x) (O : List (List Int)) (k : Nat) : Sq (bestK x O k) ∧ (bestK x O k).length = x.length := by
  have key : ∀ O : List (List Int), Sq (O.foldl (better x) x) ∧ (O.foldl (better x) x).length = x.length := by
    intro O
    rcases (fold_best x O).1 with h | ⟨o, _, h⟩
    · rw [h]; exact ⟨hs, rfl⟩
    · rw [h]; exact ⟨reordL_sq _ _, reordL_len _ _⟩
  exact key (O.take k)

/-! ### the law once more, for pictures of any size -/
theorem least_same2 {p q : List (List Int)} {i j : Nat} {l m : List Nat} {y z : List (List Int)} (hi : i < p.length) (hj : j < q.length) (h5 : l.length ≤ 10) (hl : Fit p i l) (hm : Fit q j m) (hy : Least (joinM p l) y) (hz : Least (joinM q m) z) :
    y = z ↔ Same p i q j := by
  have h1 := hl.first hi
  have h2 := hm.first hj
  have hposx : 0 < (joinM p l).length := by rw [joinM_len]; exact hl.pos
  have hposx' : 0 < (joinM q m).length := by rw [joinM_len]; exact hm.pos
  constructor
  · rintro rfl
    exact (h1.trans (hy.same hposx)).trans ((h2.trans (hz.same hposx')).symm)
  · intro hs
    have hss : Same (joinM p l) 0 (joinM q m) 0 := (h1.symm.trans hs).trans h2
    obtain ⟨f, hf⟩ := iso_of_same hl.red hm.red (hl.acc hi) (hm.acc hj) hss
    obtain ⟨g, hg⟩ := iso_of_same hm.red hl.red (hm.acc hj) (hl.acc hi) hss.symm
    exact Least.iso hf hg hy hz hposx (by rw [joinM_len]; exact h5)
/-- Joined pictures of one set have as many nodes. -/
theorem fit_len {p q : List (List Int)} {i j : Nat} {l m : List Nat} (hi : i < p.length) (hj : j < q.length) (hl : Fit p i l) (hm : Fit q j m) (h : Same p i q j) : l.length = m.length := by
  have hss : Same (joinM p l) 0 (joinM q m) 0 := ((hl.first hi).symm.trans h).trans (hm.first hj)
  obtain ⟨f, hf⟩ := iso_of_same hl.red hm.red (hl.acc hi) (hm.acc hj) hss
  have := hf.len
  rwa [joinM_len, joinM_len] at this

/-! ### an order keeps a picture reduced and reached -/
theorem reord_red {x : List (List Int)} {o : List Int} (ho : isOrdB o x.length = true) (h : Red x) : Red (reordL x o) := by
  intro a b ha hb hs
  rw [reordL_len] at ha hb
  have h1 := reord_same ho ha
  have h2 := reord_same ho hb
  have e := h _ _ h1.lt.1 h2.lt.1 ((h1.trans hs).trans h2.symm)
  obtain ⟨hl, hr, hn⟩ := isOrd_iff.1 ho
  obtain ⟨x1, e1, l1⟩ := hr a ha
  obtain ⟨x2, e2, l2⟩ := hr b hb
  rw [e1, e2, Int.toNat_natCast, Int.toNat_natCast] at e
  rw [getD_lt (by omega)] at e1 e2
  rcases Nat.lt_trichotomy a b with hlt | he | hgt
  · rw [List.nodup_iff_pairwise_ne, List.pairwise_iff_getElem] at hn
    exact absurd (by rw [e1, e2, e]) (hn a b (by omega) (by omega) hlt)
  · exact he
  · rw [List.nodup_iff_pairwise_ne, List.pairwise_iff_getElem] at hn
    exact absurd (by rw [e1, e2, e]) (hn b a (by omega) (by omega) hgt)
theorem reord_acc {x : List (List Int)} {o : List Int} (ho : Ord0 o x.length) (h : Acc x) (hpos : 0 < x.length) : Acc (reordL x o) := by
  obtain ⟨ho, h0⟩ := ho
  obtain ⟨hl, hr, hn⟩ := isOrd_iff.1 ho
  have hcov := (ord_cover hl hr).1 ho
  have key : ∀ v, Rea x 0 v → v < x.length → ∃ b, b < x.length ∧ (o.getD b 0).toNat = v ∧ Rea (reordL x o) 0 b := by
    refine Rea.ind (Q := fun v => v < x.length → ∃ b, b < x.length ∧ (o.getD b 0).toNat = v ∧ Rea (reordL x o) 0 b) (fun _ => ⟨0, hpos, by rw [h0]; rfl, Rea.refl _ _⟩) (fun k j hQ hk hkj hj => ?_)
    obtain ⟨b, hb, eb, rb⟩ := hQ hk
    obtain ⟨d, hd⟩ := List.mem_iff_getElem?.1 (hcov j hj)
    obtain ⟨hd1, hd2⟩ := List.getElem?_eq_some_iff.1 hd
    have hdj : (o.getD d 0).toNat = j := by rw [getD_lt hd1, hd2, Int.toNat_natCast]
    refine ⟨d, by omega, hdj, rb.step (by rw [reordL_len]; exact hb) ?_⟩
    rw [reordL_arr hb (by omega), eb, hdj]; exact hkj
  intro a ha
  rw [reordL_len] at ha
  obtain ⟨v, e, hv⟩ := hr a ha
  obtain ⟨b, hb, eb, rb⟩ := key v (h v hv) hv
  have : b = a := by
    obtain ⟨v', e', hv'⟩ := hr b hb
    rw [e', Int.toNat_natCast] at eb
    subst eb
    rw [getD_lt (by omega)] at e e'
    rw [List.nodup_iff_pairwise_ne, List.pairwise_iff_getElem] at hn
    rcases Nat.lt_trichotomy a b with hlt | he | hgt
    · exact absurd (by rw [e, e']) (hn a b (by omega) (by omega) hlt)
    · exact he.symm
    · exact absurd (by rw [e, e']) (hn b a (by omega) (by omega) hgt)
  rw [← this]; exact rb

/-! ### two pictures beside each other -/
def besF (p q : List (List Int)) (i j : Nat) : Bool := if i < p.length then (decide (j < p.length) && arr p i j) else (decide (p.length ≤ j) && arr q (i - p.length) (j - p.length))
def besL (p q : List (List Int)) : List (List Int) := mat (p.length + q.length) (p.length + q.length) (besF p q)
theorem besL_len (p q : List (List Int)) : (besL p q).length = p.length + q.length := mat_len _ _ _
theorem besL_sq (p q : List (List Int)) : Sq (besL p q) := mat_sq _ _
theorem besL_left {p q : List (List Int)} {i j : Nat} (hi : i < p.length) (hj : j < p.length + q.length) : arr (besL p q) i j = (decide (j < p.length) && arr p i j) := by
  unfold besL
  rw [mat_arr _ _ _ _ _ (by omega) hj]
  unfold besF
  rw [if_pos hi]
theorem besL_right {p q : List (List Int)} {i j : Nat} (hi : i < q.length) (hj : j < p.length + q.length) : arr (besL p q) (p.length + i) j = (decide (p.length ≤ j) && arr q i (j - p.length)) := by
  unfold besL
  rw [mat_arr _ _ _ _ _ (by omega) hj]
  unfold besF
  rw [if_neg (by omega), show p.length + i - p.length = i by omega]
theorem bes_left {p q : List (List Int)} {i : Nat} (hi : i < p.length) : Same p i (besL p q) i := by
  refine ⟨fun x y => x = y ∧ x < p.length, ?_, rfl, hi⟩
  rintro x y ⟨rfl, hx⟩
  refine ⟨hx, by rw [besL_len]; omega, fun k hk ha => ⟨k, by rw [besL_len]; omega, by rw [besL_left hx (by omega), ha]; simp [hk], rfl, hk⟩, fun j hj ha => ?_⟩
  rw [besL_len] at hj
  rw [besL_left hx hj, Bool.and_eq_true, decide_eq_true_eq] at ha
  exact ⟨j, ha.1, ha.2, rfl, ha.1⟩
theorem bes_right {p q : List (List Int)} {i : Nat} (hi : i < q.length) : Same q i (besL p q) (p.length + i) := by
  refine ⟨fun x y => x < q.length ∧ y = p.length + x, ?_, hi, rfl⟩
  rintro x y ⟨hx, rfl⟩
  refine ⟨hx, by rw [besL_len]; omega, fun k hk ha => ⟨p.length + k, by rw [besL_len]; omega, by rw [besL_right hx (by omega), show p.length + k - p.length = k by omega, ha]; simp, hk, rfl⟩, fun j hj ha => ?_⟩
  rw [besL_len] at hj
  rw [besL_right hx hj, Bool.and_eq_true, decide_eq_true_eq] at ha
  exact ⟨j - p.length, by omega, ha.2, by omega, by omega⟩
/-- Both nodes draw the same set, as the program finds it. -/
def sameB (p : List (List Int)) (a : Nat) (q : List (List Int)) (b : Nat) : Bool := simB (besL p q) a (p.length + b)
theorem sameB_iff {p q : List (List Int)} {a b : Nat} (ha : a < p.length) (hb : b < q.length) : sameB p a q b = true ↔ Same p a q b := by
  unfold sameB
  rw [simB_iff (by rw [besL_len]; omega) (by rw [besL_len]; omega)]
  exact ⟨fun h => ((bes_left ha).trans h).trans (bes_right hb).symm, fun h => ((bes_left ha).symm.trans h).trans (bes_right hb)⟩
theorem sameB_refl {p : List (List Int)} {a : Nat} (ha : a < p.length) : sameB p a p a = true := (sameB_iff ha ha).2 (Same.refl ha)
theorem sameB_symm {p q : List (List Int)} {a b : Nat} (ha : a < p.length) (hb : b < q.length) : sameB p a q b = sameB q b p a := by
  rw [Bool.eq_iff_iff, sameB_iff ha hb, sameB_iff hb ha]
  exact ⟨Same.symm, Same.symm⟩
theorem sameB_one {p : List (List Int)} {a b : Nat} (ha : a < p.length) (hb : b < p.length) : sameB p a p b = simB p a b := by
  rw [Bool.eq_iff_iff, sameB_iff ha hb, simB_iff ha hb]
end Go.Hyp
