/- Sets made of sets: a new node ahead of a picture. No program in sight. -/
import Derived.Test.YtiiohodkfipfbaaGreatDoorCanon
import Derived.Test.YtiiohodkfipfbaaGreatDoorCardP
import Derived.Test.YtiiohodkfipfbaaGreatDoorHas
namespace Go.Hyp
/-- A new first node with arrows to some nodes of a picture, which stands behind it. -/
def putF (P : List (List Int)) (m : Nat → Bool) (i j : Nat) : Bool := decide (1 ≤ j) && (if i = 0 then m (j - 1) else arr P (i - 1) (j - 1))
def putL (P : List (List Int)) (m : Nat → Bool) : List (List Int) := mat (P.length + 1) (P.length + 1) (putF P m)
theorem putL_len (P : List (List Int)) (m : Nat → Bool) : (putL P m).length = P.length + 1 := mat_len _ _ _
theorem putL_sq (P : List (List Int)) (m : Nat → Bool) : Sq (putL P m) := mat_sq _ _
theorem putL_zero {P : List (List Int)} {m : Nat → Bool} {v : Nat} (hv : v < P.length) : arr (putL P m) 0 (v + 1) = m v := by
  unfold putL
  rw [mat_arr _ _ _ _ _ (by omega) (by omega)]
  unfold putF
  simp
theorem putL_arr {P : List (List Int)} {m : Nat → Bool} {u v : Nat} (hu : u < P.length) (hv : v < P.length) : arr (putL P m) (u + 1) (v + 1) = arr P u v := by
  unfold putL
  rw [mat_arr _ _ _ _ _ (by omega) (by omega)]
  unfold putF
  simp
theorem putL_first {P : List (List Int)} {m : Nat → Bool} {u : Nat} (hu : u < P.length + 1) : arr (putL P m) u 0 = false := by
  unfold putL
  rw [mat_arr _ _ _ _ _ hu (by omega)]
  unfold putF
  simp
theorem putL_same {P : List (List Int)} {m : Nat → Bool} {v : Nat} (hv : v < P.length) : Same P v (putL P m) (v + 1) := by
  refine ⟨fun x y => x < P.length ∧ y = x + 1, ?_, hv, rfl⟩
  rintro x y ⟨hx, rfl⟩
  refine ⟨hx, by rw [putL_len]; omega, fun k hk ha => ⟨k + 1, by rw [putL_len]; omega, by rw [putL_arr hx hk]; exact ha, hk, rfl⟩, fun j hj ha => ?_⟩
  rw [putL_len] at hj
  cases j with
  | zero => rw [putL_first (by omega)] at ha; cases ha
  | succ j =>
    rw [putL_arr hx (by omega)] at ha
    exact ⟨j, by omega, ha, by omega, rfl⟩
theorem putL_mem {P : List (List Int)} {m : Nat → Bool} {u : Nat} : Mem (putL P m) 0 u ↔ ∃ v, v < P.length ∧ u = v + 1 ∧ m v = true := by
  unfold Mem
  rw [putL_len]
  constructor
  · rintro ⟨h1, h2⟩
    cases u with
    | zero => rw [putL_first (by omega)] at h2; cases h2
    | succ v => exact ⟨v, by omega, rfl, by rwa [putL_zero (by omega)] at h2⟩
  · rintro ⟨v, hv, rfl, hm⟩
    exact ⟨by omega, by rw [putL_zero hv]; exact hm⟩
/-- The set ahead is that of whose members are just these. -/
theorem put_is {P Q : List (List Int)} {m : Nat → Bool} {j : Nat} (hj : j < Q.length) (h1 : ∀ v, v < P.length → m v = true → ∃ u, Mem Q j u ∧ Same P v Q u) (h2 : ∀ u, Mem Q j u → ∃ v, v < P.length ∧ m v = true ∧ Same P v Q u) : Same (putL P m) 0 Q j := by
  refine same_of_members (by rw [putL_len]; omega) hj (fun k hk ha => ?_) (fun u hu ha => ?_)
  · obtain ⟨v, hv, rfl, hm⟩ := putL_mem.1 ⟨hk, ha⟩
    obtain ⟨u, hu, hs⟩ := h1 v hv hm
    exact ⟨u, hu.1, hu.2, (putL_same hv).symm.trans hs⟩
  · obtain ⟨v, hv, hm, hs⟩ := h2 u ⟨hu, ha⟩
    have hp := putL_mem.2 ⟨v, hv, rfl, hm⟩
    exact ⟨v + 1, hp.1, hp.2, (putL_same hv).symm.trans hs⟩
/-- What is the same set as the one ahead has just these members. -/
theorem put_has {P Q : List (List Int)} {m : Nat → Bool} {j : Nat} (h : Same (putL P m) 0 Q j) : (∀ v, v < P.length → m v = true → ∃ u, Mem Q j u ∧ Same P v Q u) ∧ (∀ u, Mem Q j u → ∃ v, v < P.length ∧ m v = true ∧ Same P v Q u) := by
  constructor
  · intro v hv hm
    have hp := putL_mem.2 ⟨v, hv, rfl, hm⟩
    obtain ⟨u, h1, h2, h3⟩ := h.to hp.1 hp.2
    exact ⟨u, ⟨h1, h2⟩, (putL_same hv).trans h3⟩
  · intro u hu
    obtain ⟨k, h1, h2, h3⟩ := h.symm.to hu.1 hu.2
    obtain ⟨v, hv, rfl, hm⟩ := putL_mem.1 ⟨h1, h2⟩
    exact ⟨v, hv, hm, (putL_same hv).trans h3.symm⟩
/-! ### counting -/
/-- Members that are apart, each the same as one of a list: they are no more. -/
theorem apart_le {M : List (List Int)} {K : List Nat} (hK : K.Pairwise fun a b => ¬ Same M a M b) (T : List (List (List Int) × Nat)) (h : ∀ v ∈ K, ∃ t ∈ T, Same M v t.1 t.2) : K.length ≤ T.length := by
  have hex : ∀ v, ∃ k, v ∈ K → (k < T.length ∧ ∃ t, T[k]? = some t ∧ Same M v t.1 t.2) := fun v => by
    by_cases hv : v ∈ K
    · obtain ⟨t, ht, hs⟩ := h v hv
      obtain ⟨k, hk⟩ := List.mem_iff_getElem?.1 ht
      exact ⟨k, fun _ => ⟨(List.getElem?_eq_some_iff.1 hk).1, t, hk, hs⟩⟩
    · exact ⟨0, fun h => absurd h hv⟩
  obtain ⟨g, hg⟩ := Classical.axiomOfChoice hex
  have hnd : (K.map g).Nodup := by
    rw [List.nodup_iff_pairwise_ne, List.pairwise_map]
    rw [List.pairwise_iff_getElem] at hK ⊢
    intro a b ha hb hab e
    obtain ⟨_, t, h1, h2⟩ := hg _ (List.getElem_mem ha)
    obtain ⟨_, t', h1', h2'⟩ := hg _ (List.getElem_mem hb)
    rw [e, h1'] at h1
    cases h1
    exact hK a b ha hb hab (h2.trans h2'.symm)
  have := hnd.length_le_of_subset (l₂ := List.range T.length) (fun x hx => by
    obtain ⟨v, hv, rfl⟩ := List.mem_map.1 hx
    exact List.mem_range.2 (hg v hv).1)
  rwa [List.length_map, List.length_range] at this
theorem card_eq {p : List (List Int)} {i : Nat} {L : List Nat} (hi : i < p.length) (h : Reps p i L) : cardN p i = L.length := by
  rcases card_of h with e | e
  · exact e
  · exact absurd hi e
/-- At most as many members as both together. -/
theorem card_union {M p q : List (List Int)} {i a b : Nat} (h : ∀ u, Mem M i u → (∃ v, Mem p a v ∧ Same M u p v) ∨ (∃ v, Mem q b v ∧ Same M u q v)) : cardN M i ≤ cardN p a + cardN q b := by
  have h1 := cardL_reps p a
  have h2 := cardL_reps q b
  have h3 := cardL_reps M i
  have := apart_le h3.apart ((cardL p a).map (fun v => (p, v)) ++ (cardL q b).map (fun v => (q, v))) (fun u hu => by
    rcases h u (h3.mem u hu) with ⟨v, hv, hs⟩ | ⟨v, hv, hs⟩
    · obtain ⟨x, hx, hxs⟩ := h1.all v hv
      exact ⟨(p, x), List.mem_append.2 (.inl (List.mem_map.2 ⟨x, hx, rfl⟩)), hs.trans hxs.symm⟩
    · obtain ⟨x, hx, hxs⟩ := h2.all v hv
      exact ⟨(q, x), List.mem_append.2 (.inr (List.mem_map.2 ⟨x, hx, rfl⟩)), hs.trans hxs.symm⟩)
  rw [List.length_append, List.length_map, List.length_map, cardL_len, cardL_len, cardL_len] at this
  exact this
theorem pairwise_mem {R : Nat → Nat → Prop} (hr : ∀ a b, R a b → R b a) : ∀ {L : List Nat}, L.Pairwise R → ∀ x ∈ L, ∀ y ∈ L, x ≠ y → R x y := by
  intro L
  induction L with
  | nil => intro _ x hx; simp at hx
  | cons z L ih =>
    intro h x hx y hy hne
    rw [List.pairwise_cons] at h
    rcases List.mem_cons.1 hx with ex | hx2
    · rcases List.mem_cons.1 hy with ey | hy2
      · exact absurd (ex.trans ey.symm) hne
      · rw [ex]; exact h.1 y hy2
    · rcases List.mem_cons.1 hy with ey | hy2
      · rw [ey]; exact hr _ _ (h.1 x hx2)
      · exact ih h.2 x hx2 y hy2 hne
theorem filter_one {f : Nat → Bool} : ∀ {L : List Nat}, L.Nodup → (∀ x ∈ L, ∀ y ∈ L, f x = true → f y = true → x = y) → ((∃ x ∈ L, f x = true) → (L.filter fun x => !f x).length + 1 = L.length) ∧ ((∀ x ∈ L, f x = false) → (L.filter fun x => !f x).length = L.length) := by
  intro L
  induction L with
  | nil => intro _ _; exact ⟨fun ⟨x, hx, _⟩ => by simp at hx, fun _ => rfl⟩
  | cons z L ih =>
    intro hnd hu
    rw [List.nodup_cons] at hnd
    obtain ⟨i1, i2⟩ := ih hnd.2 (fun x hx y hy => hu x (by simp [hx]) y (by simp [hy]))
    rw [List.filter_cons]
    cases hz : f z
    · simp only [Bool.not_false, if_true, List.length_cons]
      refine ⟨fun ⟨x, hx, hfx⟩ => ?_, fun hall => ?_⟩
      · rcases List.mem_cons.1 hx with rfl | hx
        · rw [hz] at hfx; cases hfx
        · have := i1 ⟨x, hx, hfx⟩; omega
      · have := i2 (fun x hx => hall x (by simp [hx])); omega
    · simp only [Bool.not_true, Bool.false_eq_true, if_false, List.length_cons]
      refine ⟨fun _ => ?_, fun hall => ?_⟩
      · have := i2 (fun x hx => by
          cases hfx : f x
          · rfl
          · have := hu x (by simp [hx]) z (by simp) hfx hz
            subst this
            exact absurd hx hnd.1)
        omega
      · have := hall z (by simp)
        rw [hz] at this; cases this
/-- A set without one member has one fewer, or as many if it was none. -/
theorem card_without {M p q : List (List Int)} {i a b : Nat} (hi : i < M.length) (hb : b < q.length) (h1 : ∀ u, Mem M i u → ∃ v, Mem p a v ∧ Same M u p v ∧ ¬ Same p v q b) (h2 : ∀ v, Mem p a v → ¬ Same p v q b → ∃ u, Mem M i u ∧ Same M u p v) :
    ((∃ v, Mem p a v ∧ Same p v q b) → cardN M i + 1 = cardN p a) ∧ ((∀ v, Mem p a v → ¬ Same p v q b) → cardN M i = cardN p a) := by
  have hL := cardL_reps p a
  have hnd : (cardL p a).Nodup := by
    rw [List.nodup_iff_pairwise_ne]
    exact List.Pairwise.imp_of_mem (fun {x y} hx _ hxy e => by
      subst e
      exact hxy (Same.refl (hL.mem x hx).1)) hL.apart
  have hun : ∀ x ∈ cardL p a, ∀ y ∈ cardL p a, sameB p x q b = true → sameB p y q b = true → x = y := fun x hx y hy h3 h4 => by
    have e3 := (sameB_iff (hL.mem x hx).1 hb).1 h3
    have e4 := (sameB_iff (hL.mem y hy).1 hb).1 h4
    apply Classical.byContradiction
    intro hne
    exact pairwise_mem (R := fun a b => ¬ Same p a p b) (fun a b h h' => h h'.symm) hL.apart x hx y hy hne (e3.trans e4.symm)
  have hex : ∀ v, ∃ u, (v ∈ cardL p a ∧ ¬ Same p v q b) → (Mem M i u ∧ Same M u p v) := fun v => by
    by_cases hv : v ∈ cardL p a ∧ ¬ Same p v q b
    · obtain ⟨u, h3, h4⟩ := h2 v (hL.mem v hv.1) hv.2
      exact ⟨u, fun _ => ⟨h3, h4⟩⟩
    · exact ⟨0, fun h => absurd h hv⟩
  obtain ⟨g, hg⟩ := Classical.axiomOfChoice hex
  have hF : ∀ v, v ∈ ((cardL p a).filter fun x => !sameB p x q b) ↔ v ∈ cardL p a ∧ ¬ Same p v q b := fun v => by
    rw [List.mem_filter]
    constructor
    · rintro ⟨h3, h4⟩
      refine ⟨h3, fun hs => ?_⟩
      rw [(sameB_iff (hL.mem v h3).1 hb).2 hs] at h4; cases h4
    · rintro ⟨h3, h4⟩
      refine ⟨h3, ?_⟩
      cases e : sameB p v q b
      · rfl
      · exact absurd ((sameB_iff (hL.mem v h3).1 hb).1 e) h4
  have hR : Reps M i (((cardL p a).filter fun x => !sameB p x q b).map g) := by
    refine ⟨fun u hu => ?_, ?_, fun u hu => ?_⟩
    · obtain ⟨v, hv, rfl⟩ := List.mem_map.1 hu
      exact (hg v ((hF v).1 hv)).1
    · rw [List.pairwise_map]
      refine List.Pairwise.imp_of_mem (fun {x y} hx hy hxy hs => ?_) (hL.apart.filter _)
      have e1 := (hg x ((hF x).1 hx)).2
      have e2 := (hg y ((hF y).1 hy)).2
      exact hxy ((e1.symm.trans hs).trans e2)
    · obtain ⟨v, hv, hs, hns⟩ := h1 u hu
      obtain ⟨x, hx, hxs⟩ := hL.all v hv
      have hxn : ¬ Same p x q b := fun h => hns (hxs.symm.trans h)
      exact ⟨g x, List.mem_map.2 ⟨x, (hF x).2 ⟨hx, hxn⟩, rfl⟩, ((hg x ⟨hx, hxn⟩).2.trans hxs).trans hs.symm⟩
  have hc := card_eq hi hR
  rw [List.length_map] at hc
  obtain ⟨f1, f2⟩ := filter_one (f := fun x => sameB p x q b) hnd hun
  rw [hc, ← cardL_len p a]
  constructor
  · rintro ⟨v, hv, hs⟩
    obtain ⟨x, hx, hxs⟩ := hL.all v hv
    exact f1 ⟨x, hx, (sameB_iff (hL.mem x hx).1 hb).2 (hxs.trans hs)⟩
  · intro hno
    exact f2 fun x hx => by
      cases e : sameB p x q b
      · rfl
      · exact absurd ((sameB_iff (hL.mem x hx).1 hb).1 e) (hno x (hL.mem x hx))
end Go.Hyp
