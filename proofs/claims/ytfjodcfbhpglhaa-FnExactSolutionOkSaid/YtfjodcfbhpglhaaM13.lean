/- Least pictures: each set has one. No program in sight. All orders that keep the first node first, as the reference lists them. No program in sight. The least picture of a node, found by going through all orders; and two pictures laid beside each other. No program in sight. spec.l4Orders: all orders that keep the first node first. Orders found by placing one node after another: all that begin with the first node, and the best of them. No program in sight. -/
import Derived.Test.YtfjodcfbhpglhaaM9
import Derived.Test.YtfjodcfbhpglhaaM10
import Derived.Test.YtfjodcfbhpglhaaM12
import Derived.Test.YtfjodcfbhpglhaaM3
namespace Go.Hyp
theorem isOrd_iff {l : List Int} {n : Nat} : isOrdB l n = true ↔ l.length = n ∧ (∀ i, i < n → ∃ x : Nat, l.getD i 0 = x ∧ x < n) ∧ l.Nodup := by
  constructor
  · intro h
    have hlen : l.length = n := by
      unfold isOrdB at h
      simp only [Bool.and_eq_true, decide_eq_true_eq] at h
      exact h.2
    refine ⟨hlen, fun i hi => ?_, ?_⟩
    · obtain ⟨x, h1, h2, _⟩ := isOrd_at h hi
      exact ⟨x, h1, h2⟩
    · rw [List.nodup_iff_pairwise_ne, List.pairwise_iff_getElem]
      intro i j hi hj hij e
      unfold isOrdB at h
      simp only [Bool.and_eq_true, decide_eq_true_eq] at h
      have h1 := h.1
      unfold ordUp at h1
      rw [List.all_eq_true] at h1
      have h2 := h1 j (List.mem_range.2 hj)
      unfold ordAt at h2
      simp only [Bool.and_eq_true, decide_eq_true_eq, Bool.not_eq_true', decide_eq_false_iff_not] at h2
      apply h2.2.2
      rw [getD_lt hj, ← e, List.mem_take_iff_getElem]
      exact ⟨i, by omega, rfl⟩
  · rintro ⟨hl, hr, hn⟩
    unfold isOrdB ordUp
    simp only [Bool.and_eq_true, decide_eq_true_eq, List.all_eq_true, List.mem_range]
    refine ⟨fun i hi => ?_, hl⟩
    obtain ⟨x, e1, e2⟩ := hr i (by omega)
    unfold ordAt
    simp only [Bool.and_eq_true, decide_eq_true_eq, Bool.not_eq_true', decide_eq_false_iff_not]
    refine ⟨by omega, by omega, fun hm => ?_⟩
    rw [List.mem_take_iff_getElem] at hm
    obtain ⟨j, hj, e⟩ := hm
    rw [List.nodup_iff_pairwise_ne, List.pairwise_iff_getElem] at hn
    refine hn j i (by omega) hi (by omega) ?_
    rw [e, getD_lt hi]
/-- An order that keeps the first node first. -/
def Ord0 (o : List Int) (n : Nat) : Prop := isOrdB o n = true ∧ o.getD 0 0 = 0
/-- y is that of all pictures that x is in an order with the first node first whose text is first. -/
def Least (x y : List (List Int)) : Prop := (∃ o, Ord0 o x.length ∧ y = reordL x o) ∧ ∀ o, Ord0 o x.length → Op.bytesLess (textP (reordL x o)) (textP y) = false
theorem reordL_len (p : List (List Int)) (o : List Int) : (reordL p o).length = p.length := mat_len _ _ _
theorem reordL_sq (p : List (List Int)) (o : List Int) : Sq (reordL p o) := mat_sq _ _
theorem reordL_arr {p : List (List Int)} {o : List Int} {i k : Nat} (hi : i < p.length) (hk : k < p.length) : arr (reordL p o) i k = arr p (o.getD i 0).toNat (o.getD k 0).toNat := mat_arr _ _ _ _ _ hi hk
theorem Least.unique {x y z : List (List Int)} (h : Least x y) (k : Least x z) (h5 : x.length ≤ 10) : y = z := by
  obtain ⟨⟨o, ho, e⟩, hmin⟩ := h
  obtain ⟨⟨o', ho', e'⟩, hmin'⟩ := k
  have h1 := hmin' o ho
  have h2 := hmin o' ho'
  rw [← e] at h1
  rw [← e'] at h2
  rcases less_tri (textP y) (textP z) with h | h | h
  · rw [h1] at h; cases h
  · subst e; subst e'
    exact textP_inj (reordL_sq _ _) (reordL_sq _ _) (by rw [reordL_len, reordL_len]) (by rw [reordL_len]; exact h5) h
  · rw [h2] at h; cases h
/-- An order of a picture's picture is an order of the picture. -/
theorem Iso.order {x x' : List (List Int)} {f : Nat → Nat} (h : Iso x x' f) {o : List Int} (ho : Ord0 o x'.length) (hpos : 0 < x'.length) : ∃ o2, Ord0 o2 x.length ∧ reordL x' o = reordL x o2 := by
  obtain ⟨h1, h0⟩ := ho
  obtain ⟨hl, hr, hn⟩ := isOrd_iff.1 h1
  have hget : ∀ i, i < x'.length → (o.map fun v => ((f v.toNat : Nat) : Int)).getD i 0 = ((f (o.getD i 0).toNat : Nat) : Int) := fun i hi => by
    simp [List.getD, show i < o.length by omega]
  refine ⟨o.map fun v => ((f v.toNat : Nat) : Int), ⟨isOrd_iff.2 ⟨by rw [List.length_map, hl, h.len], fun i hi => ?_, ?_⟩, ?_⟩, ?_⟩
  · have hi' : i < x'.length := by rw [← h.len]; exact hi
    obtain ⟨v, e1, e2⟩ := hr i hi'
    exact ⟨f v, by rw [hget i hi', e1, Int.toNat_natCast], h.lt v e2⟩
  · rw [List.nodup_iff_pairwise_ne, List.pairwise_iff_getElem] at hn ⊢
    intro i j hi hj hij e
    rw [List.length_map] at hi hj
    simp only [List.getElem_map] at e
    obtain ⟨v, e1, e2⟩ := hr i (by omega)
    obtain ⟨v', e1', e2'⟩ := hr j (by omega)
    rw [getD_lt hi] at e1
    rw [getD_lt hj] at e1'
    rw [e1, e1', Int.toNat_natCast, Int.toNat_natCast] at e
    have := h.inj v v' e2 e2' (by omega)
    exact hn i j hi hj hij (by rw [e1, e1', this])
  · rw [hget 0 hpos, h0]
    have := h.zero
    simp [this]
  · refine (reordL_sq _ _).ext (reordL_sq _ _) (by rw [reordL_len, reordL_len, h.len]) fun i k hi hk => ?_
    rw [reordL_len] at hi hk
    obtain ⟨v, e1, e2⟩ := hr i hi
    obtain ⟨v', e1', e2'⟩ := hr k hk
    rw [reordL_arr hi hk, reordL_arr (by rw [h.len]; exact hi) (by rw [h.len]; exact hk), hget i hi, hget k hk, e1, e1', Int.toNat_natCast, Int.toNat_natCast, Int.toNat_natCast, Int.toNat_natCast]
    exact h.arrow v v' e2 e2'
theorem Least.iso {x x' y y' : List (List Int)} {f g : Nat → Nat} (hf : Iso x x' f) (hg : Iso x' x g) (h : Least x y) (h' : Least x' y') (hpos : 0 < x.length) (h5 : x.length ≤ 10) : y = y' := by
  obtain ⟨⟨o, ho, e⟩, hmin⟩ := h
  obtain ⟨⟨o', ho', e'⟩, hmin'⟩ := h'
  have hpos' : 0 < x'.length := by rw [← hf.len]; exact hpos
  obtain ⟨o2, ho2, e2⟩ := hf.order ho' hpos'
  obtain ⟨o3, ho3, e3⟩ := hg.order ho hpos
  have h1 := hmin o2 ho2
  have h2 := hmin' o3 ho3
  rw [← e2, ← e'] at h1
  rw [← e3, ← e] at h2
  rcases less_tri (textP y) (textP y') with h | h | h
  · rw [h2] at h; cases h
  · subst e; subst e'
    exact textP_inj (reordL_sq _ _) (reordL_sq _ _) (by rw [reordL_len, reordL_len, hf.len]) (by rw [reordL_len]; exact h5) h
  · rw [h1] at h; cases h
/-- A picture in another order draws the same sets. -/
theorem reord_same {x : List (List Int)} {o : List Int} (ho : isOrdB o x.length = true) {b : Nat} (hb : b < x.length) : Same x (o.getD b 0).toNat (reordL x o) b := by
  obtain ⟨hl, hr, hn⟩ := isOrd_iff.1 ho
  have hcov := (ord_cover hl hr).1 ho
  refine ⟨fun u c => c < x.length ∧ u = (o.getD c 0).toNat, ?_, hb, rfl⟩
  rintro u c ⟨hc, rfl⟩
  obtain ⟨v, e1, e2⟩ := hr c hc
  refine ⟨by rw [e1, Int.toNat_natCast]; exact e2, by rw [reordL_len]; exact hc, fun k hk huk => ?_, fun d hd hcd => ?_⟩
  · obtain ⟨d, hd⟩ := List.mem_iff_getElem?.1 (hcov k hk)
    obtain ⟨hd1, hd2⟩ := List.getElem?_eq_some_iff.1 hd
    have hdk : (o.getD d 0).toNat = k := by rw [getD_lt hd1, hd2, Int.toNat_natCast]
    exact ⟨d, by rw [reordL_len]; omega, by rw [reordL_arr hc (by omega), hdk]; exact huk, by omega, hdk.symm⟩
  · rw [reordL_len] at hd
    rw [reordL_arr hc hd] at hcd
    obtain ⟨v', e1', e2'⟩ := hr d hd
    exact ⟨_, by rw [e1', Int.toNat_natCast]; exact e2', hcd, hd, rfl⟩
theorem Least.same {x y : List (List Int)} (h : Least x y) (hpos : 0 < x.length) : Same x 0 y 0 := by
  obtain ⟨⟨o, ⟨ho, h0⟩, rfl⟩, _⟩ := h
  have := reord_same ho hpos
  rw [h0] at this
  exact this
theorem Least.len {x y : List (List Int)} (h : Least x y) : y.length = x.length ∧ Sq y := by
  obtain ⟨⟨o, _, rfl⟩, _⟩ := h
  exact ⟨reordL_len _ _, reordL_sq _ _⟩
/-- THE LAW OF LEAST PICTURES: two nodes draw the same set exactly if their least pictures are equal. -/
theorem least_same {p q : List (List Int)} {i j : Nat} {l m : List Nat} {y z : List (List Int)} (hi : i < p.length) (hj : j < q.length) (hp5 : p.length ≤ 10) (hl : Fit p i l) (hm : Fit q j m) (hy : Least (joinM p l) y) (hz : Least (joinM q m) z) :
    y = z ↔ Same p i q j := by
  have h1 := hl.first hi
  have h2 := hm.first hj
  have hposx : 0 < (joinM p l).length := by rw [joinM_len]; exact hl.pos
  have hposx' : 0 < (joinM q m).length := by rw [joinM_len]; exact hm.pos
  constructor
  · rintro rfl
    exact (h1.trans (hy.same hposx)).trans ((h2.trans (hz.same hposx')).symm)
  · intro hs
    have hss : Same (joinM p l) 0 (joinM q m) 0 := (h1.symm.trans hs).trans h2
    obtain ⟨f, hf⟩ := iso_of_same hl.red hm.red (hl.acc hi) (hm.acc hj) hss
    obtain ⟨g, hg⟩ := iso_of_same hm.red hl.red (hm.acc hj) (hl.acc hi) hss.symm
    have := hl.len
    exact Least.iso hf hg hy hz hposx (by rw [joinM_len]; omega)
end Go.Hyp
namespace Go.Hyp
/-- The rows that go on from o by a number from 1 to m - 1 that it lacks. -/
def ext (o : List Int) (m : Nat) : List (List Int) := ((List.range m).filter fun x : Nat => decide (1 ≤ x) && !decide ((x : Int) ∈ o)).map fun x : Nat => o ++ [(x : Int)]
theorem ext_succ (o : List Int) (m : Nat) : ext o (m + 1) = ext o m ++ (if (decide (1 ≤ m) && !decide ((m : Int) ∈ o)) = true then [o ++ [(m : Int)]] else []) := by
  unfold ext
  rw [List.range_succ, List.filter_append, List.map_append]
  cases h : (decide (1 ≤ m) && !decide ((m : Int) ∈ o)) <;> simp [h]
theorem ext_mem {o y : List Int} {m : Nat} : y ∈ ext o m ↔ ∃ x : Nat, y = o ++ [(x : Int)] ∧ x < m ∧ 1 ≤ x ∧ (x : Int) ∉ o := by
  unfold ext
  rw [List.mem_map]
  constructor
  · rintro ⟨x, hx, rfl⟩
    rw [List.mem_filter, List.mem_range, Bool.and_eq_true, decide_eq_true_eq, Bool.not_eq_true', decide_eq_false_iff_not] at hx
    exact ⟨x, rfl, hx.1, hx.2.1, hx.2.2⟩
  · rintro ⟨x, rfl, h1, h2, h3⟩
    refine ⟨x, ?_, rfl⟩
    rw [List.mem_filter, List.mem_range, Bool.and_eq_true, decide_eq_true_eq, Bool.not_eq_true', decide_eq_false_iff_not]
    exact ⟨h1, h2, h3⟩
theorem ext_len (o : List Int) (m : Nat) : (ext o m).length ≤ m := by
  unfold ext
  rw [List.length_map]
  have := List.length_filter_le (fun x : Nat => decide (1 ≤ x) && !decide ((x : Int) ∈ o)) (List.range m)
  rwa [List.length_range] at this
/-- What the first i rows go on to. -/
def nxt (n : Nat) (O : List (List Int)) (i : Nat) : List (List Int) := (O.take i).flatMap fun o => ext o n
theorem nxt_succ {n : Nat} {O : List (List Int)} {i : Nat} (h : i < O.length) : nxt n O (i + 1) = nxt n O i ++ ext O[i] n := by
  unfold nxt
  rw [List.take_succ_eq_append_getElem h, List.flatMap_append]
  simp
/-- The rows of k + 1 numbers. -/
def ords (n : Nat) : Nat → List (List Int)
  | 0 => [[0]]
  | k + 1 => nxt n (ords n k) (ords n k).length
/-- Such a row. -/
structure Pre (n k : Nat) (o : List Int) : Prop where
  len : o.length = k + 1
  zero : o.getD 0 0 = 0
  node : ∀ x ∈ o, ∃ v : Nat, x = v ∧ v < n
  nodup : o.Nodup
theorem ords_mem {n : Nat} (hn : 1 ≤ n) : ∀ (k : Nat) (o : List Int), o ∈ ords n k ↔ Pre n k o := by
  intro k
  induction k with
  | zero =>
    intro o
    constructor
    · intro h
      have : o = [0] := by simpa [ords] using h
      subst this
      exact ⟨rfl, rfl, fun x hx => ⟨0, by simpa using hx, by omega⟩, by simp⟩
    · intro h
      have hl := h.len
      have h0 := h.zero
      match o, hl with
      | [x], _ =>
        have : x = 0 := h0
        subst this
        simp [ords]
  | succ k ih =>
    intro o
    show o ∈ nxt n (ords n k) (ords n k).length ↔ _
    unfold nxt
    rw [List.take_of_length_le (Nat.le_refl _), List.mem_flatMap]
    constructor
    · rintro ⟨q, hq, ho⟩
      have hp := (ih q).1 hq
      obtain ⟨x, rfl, h1, h2, h3⟩ := ext_mem.1 ho
      have hql := hp.len
      refine ⟨by rw [List.length_append, hql]; rfl, ?_, fun y hy => ?_, ?_⟩
      · have h0 := hp.zero
        rw [getD_lt (by omega)] at h0
        rw [getD_lt (by rw [List.length_append]; omega), List.getElem_append_left (by omega)]
        exact h0
      · rcases List.mem_append.1 hy with hy | hy
        · exact hp.node y hy
        · simp at hy; exact ⟨x, hy, h1⟩
      · refine List.nodup_append.2 ⟨hp.nodup, by simp, fun a ha b hb => ?_⟩
        simp at hb; subst hb
        exact fun e => h3 (e ▸ ha)
    · intro h
      have hl := h.len
      have hne : o ≠ [] := fun e => by rw [e] at hl; simp at hl
      have hsplit := List.dropLast_concat_getLast hne
      obtain ⟨q, hq⟩ : ∃ q, q = o.dropLast := ⟨_, rfl⟩
      obtain ⟨y, hy⟩ : ∃ y, y = o.getLast hne := ⟨_, rfl⟩
      rw [← hq, ← hy] at hsplit
      subst hsplit
      have hql : q.length = k + 1 := by rw [List.length_append] at hl; simpa using hl
      obtain ⟨x, rfl, hx⟩ := h.node y (by simp)
      have hnd := List.nodup_append.1 h.nodup
      have h0 : q.getD 0 0 = 0 := by
        have h0 := h.zero
        rw [getD_lt (by rw [List.length_append]; omega), List.getElem_append_left (by omega)] at h0
        rw [getD_lt (by omega)]
        exact h0
      have hnotin : (x : Int) ∉ q := fun hm => hnd.2.2 _ hm _ (by simp) rfl
      have h0in : (0 : Int) ∈ q := by
        rw [getD_lt (show 0 < q.length by omega)] at h0
        rw [← h0]; exact List.getElem_mem _
      refine ⟨q, (ih q).2 ⟨hql, h0, fun z hz => h.node z (by simp [hz]), hnd.1⟩, ext_mem.2 ⟨x, rfl, hx, ?_, hnotin⟩⟩
      rcases Nat.eq_zero_or_pos x with e | e
      · subst e; exact absurd h0in hnotin
      · exact e
/-- All rows of n numbers are the orders that keep the first node first. -/
theorem ords_all {n : Nat} (hn : 1 ≤ n) (o : List Int) : o ∈ ords n (n - 1) ↔ Ord0 o n := by
  rw [ords_mem hn]
  constructor
  · intro h
    have hl := h.len
    have hl : o.length = n := by omega
    refine ⟨isOrd_iff.2 ⟨hl, fun i hi => ?_, h.nodup⟩, h.zero⟩
    obtain ⟨v, e, hv⟩ := h.node (o[i]'(by omega)) (List.getElem_mem _)
    exact ⟨v, by rw [getD_lt (by omega)]; exact e, hv⟩
  · rintro ⟨h, h0⟩
    obtain ⟨hl, hr, hnd⟩ := isOrd_iff.1 h
    refine ⟨by omega, h0, fun x hx => ?_, hnd⟩
    obtain ⟨i, hi, rfl⟩ := List.getElem_of_mem hx
    obtain ⟨v, e, hv⟩ := hr i (by omega)
    exact ⟨v, by rw [getD_lt hi] at e; exact e, hv⟩
theorem nxt_len (n : Nat) (O : List (List Int)) (i : Nat) : (nxt n O i).length ≤ i * n := by
  induction i with
  | zero => simp [nxt]
  | succ i ih =>
    rcases Nat.lt_or_ge i O.length with h | h
    · rw [nxt_succ h, List.length_append, Nat.succ_mul]
      have := ext_len O[i] n
      omega
    · have e : nxt n O (i + 1) = nxt n O i := by unfold nxt; rw [List.take_of_length_le (by omega), List.take_of_length_le h]
      rw [e, Nat.succ_mul]; omega
theorem ords_len (n : Nat) (hn : n ≤ 5) : ∀ k, (ords n k).length ≤ 5 ^ k := by
  intro k
  induction k with
  | zero => simp [ords]
  | succ k ih =>
    have h := nxt_len n (ords n k) (ords n k).length
    have h2 : (ords n k).length * n ≤ 5 ^ k * 5 := Nat.mul_le_mul ih hn
    show (nxt n (ords n k) (ords n k).length).length ≤ 5 ^ (k + 1)
    rw [Nat.pow_succ]; omega
end Go.Hyp
namespace Go.Hyp
/-! ### going through orders -/
/-- The better one of a picture in an order and the best so far. -/
def better (x b : List (List Int)) (o : List Int) : List (List Int) := if Op.bytesLess (textP (reordL x o)) (textP b) = true then reordL x o else b
def bestK (x : List (List Int)) (O : List (List Int)) (k : Nat) : List (List Int) := (O.take k).foldl (better x) x
theorem bestK_zero (x : List (List Int)) (O : List (List Int)) : bestK x O 0 = x := rfl
theorem bestK_succ {x : List (List Int)} {O : List (List Int)} {k : Nat} (h : k < O.length) : bestK x O (k + 1) = better x (bestK x O k) O[k] := by
  unfold bestK
  rw [List.take_succ_eq_append_getElem h, List.foldl_append]
  rfl
/-- The order that changes nothing. -/
def idO (n : Nat) : List Int := (List.range n).map Int.ofNat
theorem idO_get (n i : Nat) (h : i < n) : (idO n).getD i 0 = (i : Int) := by simp [idO, List.getD, h]
theorem idO_ord {n : Nat} (h : 1 ≤ n) : Ord0 (idO n) n := by
  refine ⟨isOrd_iff.2 ⟨by simp [idO], fun i hi => ⟨i, idO_get n i hi, hi⟩, ?_⟩, by rw [idO_get n 0 (by omega)]; rfl⟩
  unfold idO
  rw [List.nodup_iff_pairwise_ne, List.pairwise_map]
  exact List.pairwise_lt_range.imp fun {a b} (hab : a < b) => fun (e : Int.ofNat a = Int.ofNat b) => by
    have := Int.ofNat.inj e
    omega
theorem reord_id {x : List (List Int)} (hs : Sq x) : reordL x (idO x.length) = x := by
  refine (reordL_sq _ _).ext hs (reordL_len _ _) fun i j hi hj => ?_
  rw [reordL_len] at hi hj
  rw [reordL_arr hi hj, idO_get _ _ hi, idO_get _ _ hj, Int.toNat_natCast, Int.toNat_natCast]
theorem fold_best (x : List (List Int)) : ∀ O : List (List Int), ((O.foldl (better x) x = x) ∨ ∃ o ∈ O, O.foldl (better x) x = reordL x o) ∧ (∀ o ∈ O, Op.bytesLess (textP (reordL x o)) (textP (O.foldl (better x) x)) = false) := by
  intro O
  induction O using rev_ind2 with
  | nil => exact ⟨.inl rfl, fun o ho => by simp at ho⟩
  | snoc O o ih =>
    have e : (O ++ [o]).foldl (better x) x = better x (O.foldl (better x) x) o := by rw [List.foldl_append]; rfl
    rw [e]
    obtain ⟨B, hB⟩ : ∃ B, B = O.foldl (better x) x := ⟨_, rfl⟩
    rw [← hB] at ih ⊢
    unfold better
    cases h : Op.bytesLess (textP (reordL x o)) (textP B)
    · rw [if_neg (by simp)]
      refine ⟨?_, fun o' ho' => ?_⟩
      · rcases ih.1 with h1 | ⟨o1, h1, h2⟩
        · exact .inl h1
        · exact .inr ⟨o1, by simp [h1], h2⟩
      · rcases List.mem_append.1 ho' with h1 | h1
        · exact ih.2 o' h1
        · simp at h1; subst h1; exact h
    · rw [if_pos rfl]
      refine ⟨.inr ⟨o, by simp, rfl⟩, fun o' ho' => ?_⟩
      rcases List.mem_append.1 ho' with h1 | h1
      · cases h2 : Op.bytesLess (textP (reordL x o')) (textP (reordL x o))
        · rfl
        · have := less_trans _ _ _ h2 h
          rw [ih.2 o' h1] at this; cases this
      · simp at h1; subst h1; exact less_irrefl _
/-- The least of all pictures that x is in an order with the first node first. -/
def leastL (x : List (List Int)) : List (List Int) := bestK x (ords x.length (x.length - 1)) (ords x.length (x.length - 1)).length
theorem leastL_least {x : List (List Int)} (hs : Sq x) (h1 : 1 ≤ x.length) : Least x (leastL x) := by
  have h := fold_best x (ords x.length (x.length - 1))
  have e : leastL x = (ords x.length (x.length - 1)).foldl (better x) x := by
    unfold leastL bestK
    rw [List.take_of_length_le (Nat.le_refl _)]
  rw [e]
  refine ⟨?_, fun o ho => h.2 o ((ords_all h1 o).2 ho)⟩
  rcases h.1 with h2 | ⟨o, ho, h2⟩
  · exact ⟨idO x.length, idO_ord h1, by rw [h2, reord_id hs]⟩
  · exact ⟨o, (ords_all h1 o).1 ho, h2⟩
/-- All stops of the way are pictures of one size. -/
theorem bestK_sq {x : List (List Int)} (hs : Sq x) (O : List (List Int)) (k : Nat) : Sq (bestK x O k) ∧ (bestK x O k).length = x.length := by
  have key : ∀ O : List (List Int), Sq (O.foldl (better x) x) ∧ (O.foldl (better x) x).length = x.length := by
    intro O
    rcases (fold_best x O).1 with h | ⟨o, _, h⟩
    · rw [h]; exact ⟨hs, rfl⟩
    · rw [h]; exact ⟨reordL_sq _ _, reordL_len _ _⟩
  exact key (O.take k)

/-! ### the law once more, for pictures of any size -/
theorem least_same2 {p q : List (List Int)} {i j : Nat} {l m : List Nat} {y z : List (List Int)} (hi : i < p.length) (hj : j < q.length) (h5 : l.length ≤ 10) (hl : Fit p i l) (hm : Fit q j m) (hy : Least (joinM p l) y) (hz : Least (joinM q m) z) :
    y = z ↔ Same p i q j := by
  have h1 := hl.first hi
  have h2 := hm.first hj
  have hposx : 0 < (joinM p l).length := by rw [joinM_len]; exact hl.pos
  have hposx' : 0 < (joinM q m).length := by rw [joinM_len]; exact hm.pos
  constructor
  · rintro rfl
    exact (h1.trans (hy.same hposx)).trans ((h2.trans (hz.same hposx')).symm)
  · intro hs
    have hss : Same (joinM p l) 0 (joinM q m) 0 := (h1.symm.trans hs).trans h2
    obtain ⟨f, hf⟩ := iso_of_same hl.red hm.red (hl.acc hi) (hm.acc hj) hss
    obtain ⟨g, hg⟩ := iso_of_same hm.red hl.red (hm.acc hj) (hl.acc hi) hss.symm
    exact Least.iso hf hg hy hz hposx (by rw [joinM_len]; exact h5)
/-- Joined pictures of one set have as many nodes. -/
theorem fit_len {p q : List (List Int)} {i j : Nat} {l m : List Nat} (hi : i < p.length) (hj : j < q.length) (hl : Fit p i l) (hm : Fit q j m) (h : Same p i q j) : l.length = m.length := by
  have hss : Same (joinM p l) 0 (joinM q m) 0 := ((hl.first hi).symm.trans h).trans (hm.first hj)
  obtain ⟨f, hf⟩ := iso_of_same hl.red hm.red (hl.acc hi) (hm.acc hj) hss
  have := hf.len
  rwa [joinM_len, joinM_len] at this

/-! ### an order keeps a picture reduced and reached -/
theorem reord_red {x : List (List Int)} {o : List Int} (ho : isOrdB o x.length = true) (h : Red x) : Red (reordL x o) := by
  intro a b ha hb hs
  rw [reordL_len] at ha hb
  have h1 := reord_same ho ha
  have h2 := reord_same ho hb
  have e := h _ _ h1.lt.1 h2.lt.1 ((h1.trans hs).trans h2.symm)
  obtain ⟨hl, hr, hn⟩ := isOrd_iff.1 ho
  obtain ⟨x1, e1, l1⟩ := hr a ha
  obtain ⟨x2, e2, l2⟩ := hr b hb
  rw [e1, e2, Int.toNat_natCast, Int.toNat_natCast] at e
  rw [getD_lt (by omega)] at e1 e2
  rcases Nat.lt_trichotomy a b with hlt | he | hgt
  · rw [List.nodup_iff_pairwise_ne, List.pairwise_iff_getElem] at hn
    exact absurd (by rw [e1, e2, e]) (hn a b (by omega) (by omega) hlt)
  · exact he
  · rw [List.nodup_iff_pairwise_ne, List.pairwise_iff_getElem] at hn
    exact absurd (by rw [e1, e2, e]) (hn b a (by omega) (by omega) hgt)
theorem reord_acc {x : List (List Int)} {o : List Int} (ho : Ord0 o x.length) (h : Acc x) (hpos : 0 < x.length) : Acc (reordL x o) := by
  obtain ⟨ho, h0⟩ := ho
  obtain ⟨hl, hr, hn⟩ := isOrd_iff.1 ho
  have hcov := (ord_cover hl hr).1 ho
  have key : ∀ v, Rea x 0 v → v < x.length → ∃ b, b < x.length ∧ (o.getD b 0).toNat = v ∧ Rea (reordL x o) 0 b := by
    refine Rea.ind (Q := fun v => v < x.length → ∃ b, b < x.length ∧ (o.getD b 0).toNat = v ∧ Rea (reordL x o) 0 b) (fun _ => ⟨0, hpos, by rw [h0]; rfl, Rea.refl _ _⟩) (fun k j hQ hk hkj hj => ?_)
    obtain ⟨b, hb, eb, rb⟩ := hQ hk
    obtain ⟨d, hd⟩ := List.mem_iff_getElem?.1 (hcov j hj)
    obtain ⟨hd1, hd2⟩ := List.getElem?_eq_some_iff.1 hd
    have hdj : (o.getD d 0).toNat = j := by rw [getD_lt hd1, hd2, Int.toNat_natCast]
    refine ⟨d, by omega, hdj, rb.step (by rw [reordL_len]; exact hb) ?_⟩
    rw [reordL_arr hb (by omega), eb, hdj]; exact hkj
  intro a ha
  rw [reordL_len] at ha
  obtain ⟨v, e, hv⟩ := hr a ha
  obtain ⟨b, hb, eb, rb⟩ := key v (h v hv) hv
  have : b = a := by
    obtain ⟨v', e', hv'⟩ := hr b hb
    rw [e', Int.toNat_natCast] at eb
    subst eb
    rw [getD_lt (by omega)] at e e'
    rw [List.nodup_iff_pairwise_ne, List.pairwise_iff_getElem] at hn
    rcases Nat.lt_trichotomy a b with hlt | he | hgt
    · exact absurd (by rw [e, e']) (hn a b (by omega) (by omega) hlt)
    · exact he.symm
    · exact absurd (by rw [e, e']) (hn b a (by omega) (by omega) hgt)
  rw [← this]; exact rb

/-! ### two pictures beside each other -/
def besF (p q : List (List Int)) (i j : Nat) : Bool := if i < p.length then (decide (j < p.length) && arr p i j) else (decide (p.length ≤ j) && arr q (i - p.length) (j - p.length))
def besL (p q : List (List Int)) : List (List Int) := mat (p.length + q.length) (p.length + q.length) (besF p q)
theorem besL_len (p q : List (List Int)) : (besL p q).length = p.length + q.length := mat_len _ _ _
theorem besL_sq (p q : List (List Int)) : Sq (besL p q) := mat_sq _ _
theorem besL_left {p q : List (List Int)} {i j : Nat} (hi : i < p.length) (hj : j < p.length + q.length) : arr (besL p q) i j = (decide (j < p.length) && arr p i j) := by
  unfold besL
  rw [mat_arr _ _ _ _ _ (by omega) hj]
  unfold besF
  rw [if_pos hi]
theorem besL_right {p q : List (List Int)} {i j : Nat} (hi : i < q.length) (hj : j < p.length + q.length) : arr (besL p q) (p.length + i) j = (decide (p.length ≤ j) && arr q i (j - p.length)) := by
  unfold besL
  rw [mat_arr _ _ _ _ _ (by omega) hj]
  unfold besF
  rw [if_neg (by omega), show p.length + i - p.length = i by omega]
theorem bes_left {p q : List (List Int)} {i : Nat} (hi : i < p.length) : Same p i (besL p q) i := by
  refine ⟨fun x y => x = y ∧ x < p.length, ?_, rfl, hi⟩
  rintro x y ⟨rfl, hx⟩
  refine ⟨hx, by rw [besL_len]; omega, fun k hk ha => ⟨k, by rw [besL_len]; omega, by rw [besL_left hx (by omega), ha]; simp [hk], rfl, hk⟩, fun j hj ha => ?_⟩
  rw [besL_len] at hj
  rw [besL_left hx hj, Bool.and_eq_true, decide_eq_true_eq] at ha
  exact ⟨j, ha.1, ha.2, rfl, ha.1⟩
theorem bes_right {p q : List (List Int)} {i : Nat} (hi : i < q.length) : Same q i (besL p q) (p.length + i) := by
  refine ⟨fun x y => x < q.length ∧ y = p.length + x, ?_, hi, rfl⟩
  rintro x y ⟨hx, rfl⟩
  refine ⟨hx, by rw [besL_len]; omega, fun k hk ha => ⟨p.length + k, by rw [besL_len]; omega, by rw [besL_right hx (by omega), show p.length + k - p.length = k by omega, ha]; simp, hk, rfl⟩, fun j hj ha => ?_⟩
  rw [besL_len] at hj
  rw [besL_right hx hj, Bool.and_eq_true, decide_eq_true_eq] at ha
  exact ⟨j - p.length, by omega, ha.2, by omega, by omega⟩
/-- Both nodes draw the same set, as the program finds it. -/
def sameB (p : List (List Int)) (a : Nat) (q : List (List Int)) (b : Nat) : Bool := simB (besL p q) a (p.length + b)
theorem sameB_iff {p q : List (List Int)} {a b : Nat} (ha : a < p.length) (hb : b < q.length) : sameB p a q b = true ↔ Same p a q b := by
  unfold sameB
  rw [simB_iff (by rw [besL_len]; omega) (by rw [besL_len]; omega)]
  exact ⟨fun h => ((bes_left ha).trans h).trans (bes_right hb).symm, fun h => ((bes_left ha).symm.trans h).trans (bes_right hb)⟩
theorem sameB_refl {p : List (List Int)} {a : Nat} (ha : a < p.length) : sameB p a p a = true := (sameB_iff ha ha).2 (Same.refl ha)
theorem sameB_symm {p q : List (List Int)} {a b : Nat} (ha : a < p.length) (hb : b < q.length) : sameB p a q b = sameB q b p a := by
  rw [Bool.eq_iff_iff, sameB_iff ha hb, sameB_iff hb ha]
  exact ⟨Same.symm, Same.symm⟩
theorem sameB_one {p : List (List Int)} {a b : Nat} (ha : a < p.length) (hb : b < p.length) : sameB p a p b = simB p a b := by
  rw [Bool.eq_iff_iff, sameB_iff ha hb, simB_iff ha hb]
end Go.Hyp
namespace Go.Hyp
open Go.RowKit Go.Deep
theorem ext_one (o : List Int) : ext o 1 = [] := by unfold ext; simp
theorem rows_zero (w : World) (E R : Nat) : OwII ((w.alloc (.cells #[.int .i64 0] E)).alloc (.cells #[.slice (some ⟨w.heap.size, 0, none⟩) 1 1] R)) E R w.heap.size (w.heap.size + 2) (some ⟨w.heap.size + 1, 0, none⟩) 1 [[0]] := by
  have hr := World.rowIs_alloc (w.alloc (.cells #[.int .i64 0] E)) #[.slice (some ⟨w.heap.size, 0, none⟩) 1 1] R (fun _ => .slice (some ⟨w.heap.size, 0, none⟩) 1 1) (fun i hi => by
    have : i = 0 := by simp at hi; omega
    subst this; rfl)
  have hs : (w.alloc (.cells #[.int .i64 0] E)).heap.size = w.heap.size + 1 := by simp
  rw [hs] at hr
  refine ⟨fun _ => some ⟨w.heap.size, 0, none⟩, fun _ => 1, .inr ⟨w.heap.size + 1, _, rfl, by omega, by omega, hr, by simp, by unfold maxLen; omega, fun i hi => ?_⟩, fun i hi => ?_, fun i j hij hj => ?_, fun i hi x y hx hy => ?_⟩
  · have : i = 0 := by simp at hi; omega
    subst this; rfl
  · have : i = 0 := by simp at hi; omega
    subst this
    exact ((OwI_one w E 0).agr ((Agr.refl _ _ _).alloc (by simp) _)).mono (Nat.le_refl _) (by omega)
  · simp at hj; omega
  · injection hx with hx; injection hy with hy; subst hx; subst hy; simp
end Go.Hyp
namespace Go.Proofs.Ytfjodcfbhpglhaa
open Go.RowKit Go.Hyp Go.Deep

set_option maxRecDepth 4000 in
set_option maxHeartbeats 1600000 in
theorem l4Orders_any (n : Nat) (w : World) (h1 : 1 ≤ n) (h5 : n ≤ 5) :
    Calls Try.prog 55 #[.int .i64 n] w (RetII 3 24 (ords n (n - 1)) w) := by
  have HO0 := Lib.hid (rows_zero w 3 24)
  have HB0 := Lib.hid ((below_alloc w (.cells #[.int .i64 0] 3)).alloc (by simp) (.cells #[.slice (some ⟨w.heap.size, 0, none⟩) 1 1] 24))
  go_enter Try.func55, Try.ntmps55
  go_wp2_with fail
  go_loopw [3, 4] (fun o c wr => ∃ (k : Nat) (O : List (List Int)) (x : Option Addr) (cc : Nat), k + 1 ≤ n ∧ c = .int .i64 ((k : Int) + 1) ∧ O = ords n k ∧ O.length ≤ 625 ∧ o = .slice x O.length cc ∧ OwII wr 3 24 w.heap.size wr.heap.size x cc O ∧ Below w.heap.size w wr) (fun _ c _ => n - (intOf c).toNat)
  case atStart => exact ⟨0, [[0]], _, 1, h1, rfl, rfl, by simp, rfl, HO0.out.mono (Nat.le_refl _) (by simp), HB0.out⟩
  case round =>
    obtain ⟨k, O, x, cc, hk, rfl, hO, hOl, rfl, ho, hb⟩ := hrel
    have HO := Lib.hid ho
    have HB := Lib.hid hb
    have HE := Lib.hid hO
    have hzr : w.heap.size ≤ wr.heap.size := hb.size
    clear ho hb hO HO0 HB0
    by_cases hlt : k + 1 < n
    · have hki : (k : Int) + 1 < (n : Int) := by omega
      have HA := Lib.hid (below_alloc wr (.cells #[] 24))
      have HN0 := Lib.hid (OwII_empty wr 3 24)
      have HOR := Lib.hid ((HO.out.rd).below HA.out (Nat.le_refl _))
      have hz00 : nxt n O 0 = [] := rfl
      have HZ0 := Lib.hid hz00
      obtain ⟨wk, rfl⟩ : ∃ wk : World, wk = wr := ⟨_, rfl⟩
      clear hz00
      go_wp2_with fail
      go_loopw [5, 6] (fun o c wi => ∃ (i : Nat) (N : List (List Int)) (y : Option Addr) (cy : Nat), i ≤ O.length ∧ c = .int .i64 i ∧ N = nxt n O i ∧ o = .slice y N.length cy ∧ OwII wi 3 24 wk.heap.size wi.heap.size y cy N ∧ Below wk.heap.size wk wi) (fun _ c _ => O.length - (intOf c).toNat)
      case atStart => exact ⟨0, [], _, 0, Nat.zero_le _, rfl, rfl, rfl, HN0.out.mono (Nat.le_refl _) (by simp), HA.out⟩
      case round =>
        obtain ⟨i, N, y, cy, hi, rfl, hN, rfl, hn, hb⟩ := hrel
        have HN := Lib.hid hn
        have HBN := Lib.hid hb
        have HNE := Lib.hid hN
        have hnl := nxt_len n O i
        rw [← hN] at hnl
        have hzk : wk.heap.size ≤ wr.heap.size := hb.size
        clear hn hb hN HN0 HA HOR
        by_cases hlt2 : i < O.length
        · have hii : (i : Int) < (O.length : Int) := by omega
          obtain ⟨q, hq⟩ : ∃ q, q = O[i] := ⟨_, rfl⟩
          have hql : Pre n k q := (ords_mem h1 k q).1 (by rw [← HE.out, hq]; exact List.getElem_mem _)
          have hqlen := hql.len
          have hqle1 : q.length ≤ k + 1 := by omega
          have hqle2 : k + 1 ≤ q.length := by omega
          have HQ := Lib.hid hq
          have HE1 := Lib.hid (ext_one q)
          clear hq hql hqlen
          go_wp2_with fail
          go_loopw [5, 7] (fun o c wi => ∃ (m : Nat) (N2 : List (List Int)) (y : Option Addr) (cy : Nat), m + 1 ≤ n ∧ c = .int .i64 ((m : Int) + 1) ∧ N2 = N ++ ext q (m + 1) ∧ o = .slice y N2.length cy ∧ OwII wi 3 24 wk.heap.size wi.heap.size y cy N2 ∧ Below wk.heap.size wk wi) (fun _ c _ => n - (intOf c).toNat)
          case atStart => exact ⟨0, N, y, cy, h1, rfl, by rw [HE1.out, List.append_nil], rfl, HN.out, HBN.out⟩
          case round =>
            obtain ⟨m, N2, y2, cy2, hm, rfl, hN2, rfl, hn, hb⟩ := hrel
            have HN2 := Lib.hid hn
            have HBM := Lib.hid hb
            have HNE2 := Lib.hid hN2
            have hel := ext_len q (m + 1)
            have hnl2 : N2.length ≤ 4000 := by
              have h : N2.length = N.length + (ext q (m + 1)).length := by rw [hN2, List.length_append]
              have : i * n ≤ 625 * 5 := Nat.mul_le_mul (by omega) h5
              omega
            have hzm : wk.heap.size ≤ wr.heap.size := hb.size
            clear hn hb hN2 HN HBN
            by_cases hlt3 : m + 1 < n
            · have hmi : (m : Int) + 1 < (n : Int) := by omega
              have HOW := Lib.hid ((HO.out.rd).below HBM.out (Nat.le_refl _))
              obtain ⟨b1, o1, x1, c1, rfl, hbx1, hbx2, hc1, hr1, hl1⟩ := HOW.out.at i hlt2
              rw [← HQ.out] at hc1 hr1
              have HR1 := Lib.hid hr1
              have hes := ext_succ q (m + 1)
              have HES := Lib.hid hes
              have ht0 : decide (((m : Int) + 1) ∈ q.take 0) = false := by simp
              have HT0 := Lib.hid ht0
              obtain ⟨wj, rfl⟩ : ∃ wj : World, wj = wr := ⟨_, rfl⟩
              clear hr1 hes ht0
              go_wp2_with fail
              go_loopw [8, 9] (fun f c wi => ∃ (j : Nat) (b : Bool), j ≤ q.length ∧ c = .int .i64 j ∧ f = .bool b ∧ decide (((m : Int) + 1) ∈ q.take j) = b ∧ wi = wj) (fun _ c _ => q.length - (intOf c).toNat)
              case atStart => exact ⟨0, false, Nat.zero_le _, rfl, rfl, HT0.out, rfl⟩
              case round =>
                obtain ⟨j, fb, hj, rfl, rfl, hfb, rfl⟩ := hrel
                have HFB := Lib.hid hfb
                clear hfb
                by_cases hlt4 : j < q.length
                · have hji : (j : Int) < (q.length : Int) := by omega
                  obtain ⟨b2, o2, rfl, _, hb2, hd2⟩ := HR1.out.at j hlt4
                  obtain ⟨v, hv⟩ : ∃ v, v = q[j] := ⟨_, rfl⟩
                  rw [← hv] at hd2
                  have hts : ((m : Int) + 1) ∈ q.take (j + 1) ↔ ((m : Int) + 1) ∈ q.take j ∨ (m : Int) + 1 = v := by
                    rw [List.take_succ_eq_append_getElem hlt4, ← hv, List.mem_append, List.mem_singleton]
                  have HTS := Lib.hid hts
                  clear hv hts
                  cases fb
                  · have hno : ¬ ((m : Int) + 1) ∈ q.take j := of_decide_eq_false HFB.out
                    by_cases hvm : v = (m : Int) + 1
                    · have HN : Hid (decide (((m : Int) + 1) ∈ q.take (j + 1)) = true) := Lib.hid (decide_eq_true (HTS.out.2 (.inr hvm.symm)))
                      subst hvm
                      clear hno
                      go_wp2_with fail
                      go_roundw
                      case rel => exact ⟨j + 1, true, by omega, by go_num, rfl, HN.out, by first | rfl | trivial⟩
                      case measure => simp [intOf]; omega
                    · have HN : Hid (decide (((m : Int) + 1) ∈ q.take (j + 1)) = false) := Lib.hid (decide_eq_false (fun h => by
                        rcases HTS.out.1 h with h | h
                        · exact hno h
                        · exact hvm h.symm))
                      have hbf : (v == (m : Int) + 1) = false := beq_eq_false_iff_ne.2 hvm
                      clear hno hvm
                      go_wp2_with fail
                      go_roundw
                      case rel => exact ⟨j + 1, false, by omega, by go_num, rfl, HN.out, by first | rfl | trivial⟩
                      case measure => simp [intOf]; omega
                  · have HN : Hid (decide (((m : Int) + 1) ∈ q.take (j + 1)) = true) := Lib.hid (decide_eq_true (HTS.out.2 (.inl (of_decide_eq_true HFB.out))))
                    go_wp2_with fail
                    go_roundw
                    case rel => exact ⟨j + 1, true, by omega, by go_num, rfl, HN.out, by first | rfl | trivial⟩
                    case measure => simp [intOf]; omega
                · obtain rfl : j = q.length := by omega
                  have hfull := HFB.out
                  rw [List.take_of_length_le (Nat.le_refl _)] at hfull
                  have hcast : ((m + 1 : Nat) : Int) = (m : Int) + 1 := by omega
                  cases fb
                  · have HEX : Hid (N ++ ext q (m + 1 + 1) = N2 ++ [q ++ [(m : Int) + 1]]) := Lib.hid (by
                      rw [HES.out, HNE2.out, hcast, hfull]
                      simp)
                    clear hfull hcast
                    obtain ⟨b2, o2, rfl, hb21, hb22, _⟩ := HR1.out.at 0 (by omega)
                    have hq5 : q.length ≤ 5 := by omega
                    have hb1w : b1 < wr.heap.size := by omega
                    have hb2w : b2 < wr.heap.size := by omega
                    have HE3 := Lib.hid (OwI_empty wr 3)
                    have HR3 := Lib.hid (HR1.out.below (below_alloc wr (.cells #[] 3)) (Nat.le_trans (Nat.le_refl _) hzm))
                    go_wp2_with (at_builtin; first | (refine wpList_appIs Try.underlying24 Try.infoInt (wr.alloc (.cells #[] 3)) rfl _ _ rfl wr.heap.size (wr.heap.size + 1) (some ⟨wr.heap.size, 0, none⟩) 0 [] rfl HE3.out (by simp) _ _ (some ⟨b2, o2, none⟩) c1 q rfl HR3.out (fun e => by cases e) (by simp; omega) ?_; intro a3 c3 w3 hown3 hgrow3 hat3; rw [List.nil_append] at hown3; have HO3 := Lib.hid hown3; have HG3 := Lib.hid hgrow3; clear hown3 hgrow3 hat3; have hz3 : wr.heap.size + 1 ≤ w3.heap.size := (by have := HG3.out.size; simpa using this); have HP3 := Lib.hid (HN2.out.agr (fun b h1 h2 => (HG3.out.block b (by simp; omega) (fun e => by simp [blockOf] at e; omega)).trans (Below.heap_alloc _ _ _ (by omega)))); have HB3 := Lib.hid (below_app HBM.out HG3.out (fun k hk => by simp [blockOf] at hk; exact Nat.le_of_eq hk) hzm (Nat.le_refl _))) | (refine wpList_appI Try.underlying24 Try.infoInt _ rfl _ _ rfl wr.heap.size w3.heap.size a3 c3 q (by first | rfl | exact congrArg (fun k => Value.slice a3 k c3) (Nat.zero_add _).symm | exact congrArg (fun k => Value.slice a3 k c3) (Nat.zero_add _)) (HO3.out.agr ((Agr.refl _ _ _).alloc (Nat.le_refl _) _)) (by simp; omega) ⟨w3.heap.size, 0, none⟩ ((m : Int) + 1) rfl (new_cellE _ _ _ rfl) (by omega) ?_; intro g4 c4 w4 hown4 hgrow4 hat4 hg4; have HO4 := Lib.hid hown4; have HG4 := Lib.hid hgrow4; clear hown4 hgrow4 hat4; have hz4 : w3.heap.size + 1 ≤ w4.heap.size := (by have := HG4.out.size; simpa using this); have HP4 := Lib.hid (HP3.out.agr (fun b h1 h2 => (HG4.out.block b (by simp; omega) (fun e => by have := HO3.out.block_in e.symm; omega)).trans (Below.heap_alloc _ _ _ (by omega)))); have HB4 := Lib.hid (below_app HB3.out HG4.out (fun k hk => (HO3.out.block_in hk).1) hzm (Nat.le_refl _))) | (go_loud (refine wpList_appII Try.underlying38 Try.infoRow _ rfl _ _ rfl wk.heap.size wr.heap.size y2 cy2 N2 rfl (HP4.out.agr ((Agr.refl _ _ _).alloc (by omega) _)) (by simp; omega) (by simp; omega) ⟨w4.heap.size, 0, none⟩ (some ⟨g4, 0, none⟩) c4 (q ++ [(m : Int) + 1]) rfl (by rw [List.length_append]; exact new_cellE _ _ _ rfl) wr.heap.size w4.heap.size (HO4.out.agr ((Agr.refl _ _ _).alloc (Nat.le_refl _) _)) (Nat.le_refl _) hzm (by simp) (by omega) ?_; intro a5 c5 w5 hown5 hgrow5 hat5; have HO5 := Lib.hid hown5; have HB5 := Lib.hid (below_app HB4.out hgrow5 (fun k hk => (HP4.out.block_in hk).1) (Nat.le_refl _) (Nat.le_refl _)); clear hown5 hgrow5 hat5)))
                    go_roundw
                    case rel => exact ⟨m + 1, N2 ++ [q ++ [(m : Int) + 1]], a5, c5, by omega, by go_num, HEX.out.symm, by simp, HO5.out, HB5.out⟩
                    case measure => simp [intOf]; omega
                  · have HEX : Hid (N ++ ext q (m + 1 + 1) = N2) := Lib.hid (by
                      rw [HES.out, HNE2.out, hcast, hfull]
                      simp)
                    clear hfull hcast
                    go_wp2_with fail
                    go_roundw
                    case rel => exact ⟨m + 1, N2, y2, cy2, by omega, by go_num, HEX.out.symm, rfl, HN2.out, HBM.out⟩
                    case measure => simp [intOf]; omega
            · obtain rfl : m + 1 = n := by omega
              have HNN : Hid (N2 = nxt (m + 1) O (i + 1)) := Lib.hid (by rw [HNE2.out, HNE.out, nxt_succ hlt2, ← HQ.out])
              go_wp2_with fail
              go_roundw
              case rel => exact ⟨i + 1, N2, y2, cy2, by omega, by go_num, HNN.out, rfl, HN2.out, HBM.out⟩
              case measure => simp [intOf]; omega
        · obtain rfl : i = O.length := by omega
          have HOE : Hid (N = ords n (k + 1)) := Lib.hid (by rw [HNE.out, HE.out]; rfl)
          have hb625 : N.length ≤ 625 := by
            rw [HOE.out]
            have h1 := ords_len n h5 (k + 1)
            have h2 : 5 ^ (k + 1) ≤ 5 ^ 4 := Nat.pow_le_pow_right (by omega) (by omega)
            have h3 : (5 : Nat) ^ 4 = 625 := rfl
            omega
          go_wp2_with fail
          go_roundw
          case rel => exact ⟨k + 1, N, y, cy, by omega, by go_num, HOE.out, hb625, rfl, HN.out.mono hzr (Nat.le_refl _), HB.out.trans (HBN.out.mono hzr)⟩
          case measure => simp [intOf]; omega
    · have hki : ¬ ((k : Int) + 1 < (n : Int)) := by omega
      have HEE : Hid (O = ords n (n - 1)) := Lib.hid (by rw [HE.out]; congr 1; omega)
      go_wp2_with fail
      go_ret
      exact retII_of HEE.out HO.out HB.out
end Go.Proofs.Ytfjodcfbhpglhaa
namespace Go.Hyp
/-- All orders of n nodes that begin so, with k nodes to come. -/
def comp (n : Nat) : Nat → List Int → List (List Int)
  | 0, o => [o]
  | k + 1, o => (List.range n).flatMap fun v => if ((v : Nat) : Int) ∈ o then [] else comp n k (o ++ [((v : Nat) : Int)])
/-- Those of them whose next node is below t. -/
def compU (n k : Nat) (o : List Int) (t : Nat) : List (List Int) := (List.range t).flatMap fun v => if ((v : Nat) : Int) ∈ o then [] else comp n k (o ++ [((v : Nat) : Int)])
theorem comp_zero (n : Nat) (o : List Int) : comp n 0 o = [o] := rfl
theorem comp_succ (n k : Nat) (o : List Int) : comp n (k + 1) o = compU n k o n := rfl
theorem compU_zero (n k : Nat) (o : List Int) : compU n k o 0 = [] := rfl
theorem compU_yes {n k t : Nat} {o : List Int} (h : ((t : Nat) : Int) ∈ o) : compU n k o (t + 1) = compU n k o t := by
  unfold compU
  rw [List.range_succ, List.flatMap_append]
  simp [h]
theorem compU_no {n k t : Nat} {o : List Int} (h : ¬ ((t : Nat) : Int) ∈ o) : compU n k o (t + 1) = compU n k o t ++ comp n k (o ++ [((t : Nat) : Int)]) := by
  unfold compU
  rw [List.range_succ, List.flatMap_append]
  simp [h]
theorem best_app (x b : List (List Int)) (O Q : List (List Int)) : (O ++ Q).foldl (better x) b = Q.foldl (better x) (O.foldl (better x) b) := List.foldl_append
/-- A beginning of an order. -/
def PartO (o : List Int) (n : Nat) : Prop := o.Nodup ∧ ∀ x ∈ o, ∃ v : Nat, x = v ∧ v < n
theorem PartO.snoc {o : List Int} {n v : Nat} (h : PartO o n) (hv : v < n) (hn : ¬ ((v : Nat) : Int) ∈ o) : PartO (o ++ [((v : Nat) : Int)]) n := by
  refine ⟨?_, fun x hx => ?_⟩
  · rw [List.nodup_append]
    refine ⟨h.1, by simp, fun a ha b hb e => ?_⟩
    simp at hb
    subst hb
    subst e
    exact hn ha
  · rcases List.mem_append.1 hx with h1 | h1
    · exact h.2 x h1
    · simp at h1; exact ⟨v, h1, hv⟩
theorem PartO.one {n : Nat} (hn : 1 ≤ n) : PartO [0] n := ⟨by simp, fun x hx => by simp at hx; exact ⟨0, hx, by omega⟩⟩
theorem comp_mem {n : Nat} : ∀ (k : Nat) (o : List Int), PartO o n → o.length + k = n → 1 ≤ o.length → o.getD 0 0 = 0 → ∀ q, q ∈ comp n k o ↔ Ord0 q n ∧ o <+: q := by
  intro k
  induction k with
  | zero =>
    intro o ho hl h1 h0 q
    rw [comp_zero, List.mem_singleton]
    constructor
    · rintro rfl
      refine ⟨⟨isOrd_iff.2 ⟨by omega, fun i hi => ?_, ho.1⟩, h0⟩, List.prefix_refl _⟩
      obtain ⟨v, e, hv⟩ := ho.2 (q[i]'(by omega)) (List.getElem_mem _)
      exact ⟨v, by rw [getD_lt (by omega)]; exact e, hv⟩
    · rintro ⟨hq, hp⟩
      have := (isOrd_iff.1 hq.1).1
      exact (List.IsPrefix.eq_of_length hp (by omega)).symm
  | succ k ih =>
    intro o ho hl h1 h0 q
    rw [comp_succ]
    unfold compU
    rw [List.mem_flatMap]
    constructor
    · rintro ⟨v, hv, hq⟩
      rw [List.mem_range] at hv
      by_cases hm : ((v : Nat) : Int) ∈ o
      · rw [if_pos hm] at hq; simp at hq
      · rw [if_neg hm] at hq
        have := (ih (o ++ [((v : Nat) : Int)]) (ho.snoc hv hm) (by simp; omega) (by simp) (by rw [getD_lt (by simp)]; rw [getD_lt (by omega)] at h0; rw [List.getElem_append_left (by omega)]; exact h0) q).1 hq
        exact ⟨this.1, (List.prefix_append _ _).trans this.2⟩
    · rintro ⟨hq, r, rfl⟩
      obtain ⟨hql, hqr, hqn⟩ := isOrd_iff.1 hq.1
      rw [List.length_append] at hql
      cases r with
      | nil => simp at hql; omega
      | cons x r =>
        obtain ⟨v, e, hv⟩ := hqr o.length (by omega)
        have ex : x = v := by
          rw [getD_lt (by simp)] at e
          rw [List.getElem_append_right (Nat.le_refl _)] at e
          simpa using e
        subst ex
        have hm : ¬ ((v : Nat) : Int) ∈ o := fun h => by
          rw [List.nodup_append] at hqn
          exact hqn.2.2 _ h _ (by simp) rfl
        refine ⟨v, List.mem_range.2 hv, ?_⟩
        rw [if_neg hm]
        refine (ih (o ++ [((v : Nat) : Int)]) (ho.snoc hv hm) (by simp; omega) (by simp) (by rw [getD_lt (by simp)]; rw [getD_lt (by omega)] at h0; rw [List.getElem_append_left (by omega)]; exact h0) _).2 ⟨hq, ?_⟩
        exact ⟨r, by simp⟩
/-- The best of all orders that begin with the first node. -/
def placeL (x : List (List Int)) : List (List Int) := (comp x.length (x.length - 1) [0]).foldl (better x) x
theorem placeL_least {x : List (List Int)} (hs : Sq x) (h1 : 1 ≤ x.length) : Least x (placeL x) := by
  have hmem := comp_mem (n := x.length) (x.length - 1) [0] (PartO.one h1) (by simp; omega) (by simp) rfl
  have h := fold_best x (comp x.length (x.length - 1) [0])
  refine ⟨?_, fun o ho => h.2 o ((hmem o).2 ⟨ho, ?_⟩)⟩
  · rcases h.1 with h2 | ⟨o, ho, h2⟩
    · exact ⟨idO x.length, idO_ord h1, by unfold placeL; rw [h2, reord_id hs]⟩
    · exact ⟨o, ((hmem o).1 ho).1, h2⟩
  · have hl := (isOrd_iff.1 ho.1).1
    cases o with
    | nil => simp at hl; omega
    | cons y r =>
      have : y = 0 := by have := ho.2; simpa using this
      subst this
      exact ⟨r, rfl⟩
theorem best_sq {x b : List (List Int)} (hb : Sq b ∧ b.length = x.length) : ∀ O : List (List Int), Sq (O.foldl (better x) b) ∧ (O.foldl (better x) b).length = x.length := by
  intro O
  induction O using rev_ind2 with
  | nil => exact hb
  | snoc O o ih =>
    have e : (O ++ [o]).foldl (better x) b = better x (O.foldl (better x) b) o := by rw [List.foldl_append]; rfl
    rw [e]
    unfold better
    split
    · exact ⟨reordL_sq _ _, reordL_len _ _⟩
    · exact ih
end Go.Hyp
