/- Members of sets: impl.hasSet, impl.HasSet, spec.HasSet, impl.InSet, spec.InSet. Sets made of sets: a new node ahead of a picture. No program in sight. The least pictures of sets that are put together, and what is true of them. No program in sight. What the laws of least pictures say, in plain words. No program in sight. -/
import Derived.StillTailTactics
import Derived.Test.YtfjodcfbhpglhaaM18
import Derived.Test.YtfjodcfbhpglhaaM20
import Derived.Test.YtfjodcfbhpglhaaM15
import Derived.Test.YtfjodcfbhpglhaaM17
namespace Go.Hyp
open Go.RowKit Go.Deep
/-- The set at i has that at j as a member. -/
def hasL (p : List (List Int)) (i : Nat) (q : List (List Int)) (j : Nat) : Bool := (arrL p i p.length).any fun v => sameB p v.toNat q j
/-- What HasSet answers. -/
def hasB (p : List (List Int)) (n : Int) (q : List (List Int)) (m : Int) : Bool := nodeB p n && nodeB q m && hasL p n.toNat q m.toNat
/-- All members of the set at i are members of that at j. -/
def inL (p : List (List Int)) (i : Nat) (q : List (List Int)) (j : Nat) : Bool := !(arrL p i p.length).any fun v => !hasL q j p v.toNat
/-- What InSet answers. -/
def inB (p : List (List Int)) (n : Int) (q : List (List Int)) (m : Int) : Bool := nodeB p n && nodeB q m && inL p n.toNat q m.toNat
theorem hasB_no1 {p q : List (List Int)} {a b : Int} (h : nodeB p a = false) : hasB p a q b = false := by unfold hasB; rw [h]; rfl
theorem hasB_no2 {p q : List (List Int)} {a b : Int} (h : nodeB q b = false) : hasB p a q b = false := by unfold hasB; rw [h, Bool.and_false]; rfl
theorem hasB_yes {p q : List (List Int)} {i j : Nat} (h : nodeB p i = true) (k : nodeB q j = true) : hasB p i q j = hasL p i q j := by unfold hasB; rw [h, k, Int.toNat_natCast, Int.toNat_natCast]; rfl
theorem inB_no1 {p q : List (List Int)} {a b : Int} (h : nodeB p a = false) : inB p a q b = false := by unfold inB; rw [h]; rfl
theorem inB_no2 {p q : List (List Int)} {a b : Int} (h : nodeB q b = false) : inB p a q b = false := by unfold inB; rw [h, Bool.and_false]; rfl
theorem inB_yes {p q : List (List Int)} {i j : Nat} (h : nodeB p i = true) (k : nodeB q j = true) : inB p i q j = inL p i q j := by unfold inB; rw [h, k, Int.toNat_natCast, Int.toNat_natCast]; rfl
theorem hasL_iff {p q : List (List Int)} {i j : Nat} (hj : j < q.length) : hasL p i q j = true ↔ ∃ v, v < p.length ∧ arr p i v = true ∧ Same p v q j := by
  unfold hasL
  rw [List.any_eq_true]
  constructor
  · rintro ⟨x, hx, h⟩
    obtain ⟨v, rfl, h1, h2⟩ := arrL_mem.1 hx
    rw [Int.toNat_natCast] at h
    exact ⟨v, h1, h2, (sameB_iff h1 hj).1 h⟩
  · rintro ⟨v, h1, h2, h3⟩
    exact ⟨v, arrL_mem.2 ⟨v, rfl, h1, h2⟩, by rw [Int.toNat_natCast]; exact (sameB_iff h1 hj).2 h3⟩
theorem inL_iff {p q : List (List Int)} {i j : Nat} : inL p i q j = true ↔ ∀ v, v < p.length → arr p i v = true → ∃ u, u < q.length ∧ arr q j u = true ∧ Same q u p v := by
  unfold inL
  rw [Bool.not_eq_true', List.any_eq_false]
  constructor
  · intro h v hv ha
    have h1 := h v (arrL_mem.2 ⟨v, rfl, hv, ha⟩)
    rw [Int.toNat_natCast] at h1
    have h2 : hasL q j p v = true := by simpa using h1
    exact (hasL_iff hv).1 h2
  · intro h x hx
    obtain ⟨v, rfl, h1, h2⟩ := arrL_mem.1 hx
    rw [Int.toNat_natCast, (hasL_iff h1).2 (h v h1 h2)]
    simp
/-- Within each other means the same. -/
theorem in_both {p q : List (List Int)} {i j : Nat} (hi : i < p.length) (hj : j < q.length) : (inL p i q j && inL q j p i) = sameB p i q j := by
  rw [Bool.eq_iff_iff, Bool.and_eq_true, sameB_iff hi hj, inL_iff, inL_iff]
  constructor
  · rintro ⟨h1, h2⟩
    exact same_of_members hi hj (fun k hk ha => by
      obtain ⟨u, e1, e2, e3⟩ := h1 k hk ha
      exact ⟨u, e1, e2, e3.symm⟩) (fun k hk ha => h2 k hk ha)
  · intro h
    exact ⟨fun v hv ha => by
      obtain ⟨u, e1, e2, e3⟩ := h.to hv ha
      exact ⟨u, e1, e2, e3.symm⟩, fun v hv ha => by
      obtain ⟨u, e1, e2, e3⟩ := h.symm.to hv ha
      exact ⟨u, e1, e2, e3.symm⟩⟩
end Go.Hyp
namespace Go.Proofs.Ytfjodcfbhpglhaa
open Go.RowKit Go.Hyp Go.Deep

end Go.Proofs.Ytfjodcfbhpglhaa
namespace Go.Hyp
/-- A new first node with arrows to some nodes of a picture, which stands behind it. -/
def putF (P : List (List Int)) (m : Nat → Bool) (i j : Nat) : Bool := decide (1 ≤ j) && (if i = 0 then m (j - 1) else arr P (i - 1) (j - 1))
def putL (P : List (List Int)) (m : Nat → Bool) : List (List Int) := mat (P.length + 1) (P.length + 1) (putF P m)
theorem putL_len (P : List (List Int)) (m : Nat → Bool) : (putL P m).length = P.length + 1 := mat_len _ _ _
theorem putL_sq (P : List (List Int)) (m : Nat → Bool) : Sq (putL P m) := mat_sq _ _
theorem putL_zero {P : List (List Int)} {m : Nat → Bool} {v : Nat} (hv : v < P.length) : arr (putL P m) 0 (v + 1) = m v := by
  unfold putL
  rw [mat_arr _ _ _ _ _ (by omega) (by omega)]
  unfold putF
  simp
theorem putL_arr {P : List (List Int)} {m : Nat → Bool} {u v : Nat} (hu : u < P.length) (hv : v < P.length) : arr (putL P m) (u + 1) (v + 1) = arr P u v := by
  unfold putL
  rw [mat_arr _ _ _ _ _ (by omega) (by omega)]
  unfold putF
  simp
theorem putL_first {P : List (List Int)} {m : Nat → Bool} {u : Nat} (hu : u < P.length + 1) : arr (putL P m) u 0 = false := by
  unfold putL
  rw [mat_arr _ _ _ _ _ hu (by omega)]
  unfold putF
  simp
theorem putL_same {P : List (List Int)} {m : Nat → Bool} {v : Nat} (hv : v < P.length) : Same P v (putL P m) (v + 1) := by
  refine ⟨fun x y => x < P.length ∧ y = x + 1, ?_, hv, rfl⟩
  rintro x y ⟨hx, rfl⟩
  refine ⟨hx, by rw [putL_len]; omega, fun k hk ha => ⟨k + 1, by rw [putL_len]; omega, by rw [putL_arr hx hk]; exact ha, hk, rfl⟩, fun j hj ha => ?_⟩
  rw [putL_len] at hj
  cases j with
  | zero => rw [putL_first (by omega)] at ha; cases ha
  | succ j =>
    rw [putL_arr hx (by omega)] at ha
    exact ⟨j, by omega, ha, by omega, rfl⟩
theorem putL_mem {P : List (List Int)} {m : Nat → Bool} {u : Nat} : Mem (putL P m) 0 u ↔ ∃ v, v < P.length ∧ u = v + 1 ∧ m v = true := by
  unfold Mem
  rw [putL_len]
  constructor
  · rintro ⟨h1, h2⟩
    cases u with
    | zero => rw [putL_first (by omega)] at h2; cases h2
    | succ v => exact ⟨v, by omega, rfl, by rwa [putL_zero (by omega)] at h2⟩
  · rintro ⟨v, hv, rfl, hm⟩
    exact ⟨by omega, by rw [putL_zero hv]; exact hm⟩
/-- The set ahead is that of whose members are just these. -/
theorem put_is {P Q : List (List Int)} {m : Nat → Bool} {j : Nat} (hj : j < Q.length) (h1 : ∀ v, v < P.length → m v = true → ∃ u, Mem Q j u ∧ Same P v Q u) (h2 : ∀ u, Mem Q j u → ∃ v, v < P.length ∧ m v = true ∧ Same P v Q u) : Same (putL P m) 0 Q j := by
  refine same_of_members (by rw [putL_len]; omega) hj (fun k hk ha => ?_) (fun u hu ha => ?_)
  · obtain ⟨v, hv, rfl, hm⟩ := putL_mem.1 ⟨hk, ha⟩
    obtain ⟨u, hu, hs⟩ := h1 v hv hm
    exact ⟨u, hu.1, hu.2, (putL_same hv).symm.trans hs⟩
  · obtain ⟨v, hv, hm, hs⟩ := h2 u ⟨hu, ha⟩
    have hp := putL_mem.2 ⟨v, hv, rfl, hm⟩
    exact ⟨v + 1, hp.1, hp.2, (putL_same hv).symm.trans hs⟩
/-- What is the same set as the one ahead has just these members. -/
theorem put_has {P Q : List (List Int)} {m : Nat → Bool} {j : Nat} (h : Same (putL P m) 0 Q j) : (∀ v, v < P.length → m v = true → ∃ u, Mem Q j u ∧ Same P v Q u) ∧ (∀ u, Mem Q j u → ∃ v, v < P.length ∧ m v = true ∧ Same P v Q u) := by
  constructor
  · intro v hv hm
    have hp := putL_mem.2 ⟨v, hv, rfl, hm⟩
    obtain ⟨u, h1, h2, h3⟩ := h.to hp.1 hp.2
    exact ⟨u, ⟨h1, h2⟩, (putL_same hv).trans h3⟩
  · intro u hu
    obtain ⟨k, h1, h2, h3⟩ := h.symm.to hu.1 hu.2
    obtain ⟨v, hv, rfl, hm⟩ := putL_mem.1 ⟨h1, h2⟩
    exact ⟨v, hv, hm, (putL_same hv).trans h3.symm⟩
/-! ### counting -/
/-- Members that are apart, each the same as one of a list: they are no more. -/
theorem apart_le {M : List (List Int)} {K : List Nat} (hK : K.Pairwise fun a b => ¬ Same M a M b) (T : List (List (List Int) × Nat)) (h : ∀ v ∈ K, ∃ t ∈ T, Same M v t.1 t.2) : K.length ≤ T.length := by
  have hex : ∀ v, ∃ k, v ∈ K → (k < T.length ∧ ∃ t, T[k]? = some t ∧ Same M v t.1 t.2) := fun v => by
    by_cases hv : v ∈ K
    · obtain ⟨t, ht, hs⟩ := h v hv
      obtain ⟨k, hk⟩ := List.mem_iff_getElem?.1 ht
      exact ⟨k, fun _ => ⟨(List.getElem?_eq_some_iff.1 hk).1, t, hk, hs⟩⟩
    · exact ⟨0, fun h => absurd h hv⟩
  obtain ⟨g, hg⟩ := Classical.axiomOfChoice hex
  have hnd : (K.map g).Nodup := by
    rw [List.nodup_iff_pairwise_ne, List.pairwise_map]
    rw [List.pairwise_iff_getElem] at hK ⊢
    intro a b ha hb hab e
    obtain ⟨_, t, h1, h2⟩ := hg _ (List.getElem_mem ha)
    obtain ⟨_, t', h1', h2'⟩ := hg _ (List.getElem_mem hb)
    rw [e, h1'] at h1
    cases h1
    exact hK a b ha hb hab (h2.trans h2'.symm)
  have := hnd.length_le_of_subset (l₂ := List.range T.length) (fun x hx => by
    obtain ⟨v, hv, rfl⟩ := List.mem_map.1 hx
    exact List.mem_range.2 (hg v hv).1)
  rwa [List.length_map, List.length_range] at this
theorem card_eq {p : List (List Int)} {i : Nat} {L : List Nat} (hi : i < p.length) (h : Reps p i L) : cardN p i = L.length := by
  rcases card_of h with e | e
  · exact e
  · exact absurd hi e
/-- At most as many members as both together. -/
theorem card_union {M p q : List (List Int)} {i a b : Nat} (h : ∀ u, Mem M i u → (∃ v, Mem p a v ∧ Same M u p v) ∨ (∃ v, Mem q b v ∧ Same M u q v)) : cardN M i ≤ cardN p a + cardN q b := by
  have h1 := cardL_reps p a
  have h2 := cardL_reps q b
  have h3 := cardL_reps M i
  have := apart_le h3.apart ((cardL p a).map (fun v => (p, v)) ++ (cardL q b).map (fun v => (q, v))) (fun u hu => by
    rcases h u (h3.mem u hu) with ⟨v, hv, hs⟩ | ⟨v, hv, hs⟩
    · obtain ⟨x, hx, hxs⟩ := h1.all v hv
      exact ⟨(p, x), List.mem_append.2 (.inl (List.mem_map.2 ⟨x, hx, rfl⟩)), hs.trans hxs.symm⟩
    · obtain ⟨x, hx, hxs⟩ := h2.all v hv
      exact ⟨(q, x), List.mem_append.2 (.inr (List.mem_map.2 ⟨x, hx, rfl⟩)), hs.trans hxs.symm⟩)
  rw [List.length_append, List.length_map, List.length_map, cardL_len, cardL_len, cardL_len] at this
  exact this
theorem pairwise_mem {R : Nat → Nat → Prop} (hr : ∀ a b, R a b → R b a) : ∀ {L : List Nat}, L.Pairwise R → ∀ x ∈ L, ∀ y ∈ L, x ≠ y → R x y := by
  intro L
  induction L with
  | nil => intro _ x hx; simp at hx
  | cons z L ih =>
    intro h x hx y hy hne
    rw [List.pairwise_cons] at h
    rcases List.mem_cons.1 hx with ex | hx2
    · rcases List.mem_cons.1 hy with ey | hy2
      · exact absurd (ex.trans ey.symm) hne
      · rw [ex]; exact h.1 y hy2
    · rcases List.mem_cons.1 hy with ey | hy2
      · rw [ey]; exact hr _ _ (h.1 x hx2)
      · exact ih h.2 x hx2 y hy2 hne
theorem filter_one {f : Nat → Bool} : ∀ {L : List Nat}, L.Nodup → (∀ x ∈ L, ∀ y ∈ L, f x = true → f y = true → x = y) → ((∃ x ∈ L, f x = true) → (L.filter fun x => !f x).length + 1 = L.length) ∧ ((∀ x ∈ L, f x = false) → (L.filter fun x => !f x).length = L.length) := by
  intro L
  induction L with
  | nil => intro _ _; exact ⟨fun ⟨x, hx, _⟩ => by simp at hx, fun _ => rfl⟩
  | cons z L ih =>
    intro hnd hu
    rw [List.nodup_cons] at hnd
    obtain ⟨i1, i2⟩ := ih hnd.2 (fun x hx y hy => hu x (by simp [hx]) y (by simp [hy]))
    rw [List.filter_cons]
    cases hz : f z
    · simp only [Bool.not_false, if_true, List.length_cons]
      refine ⟨fun ⟨x, hx, hfx⟩ => ?_, fun hall => ?_⟩
      · rcases List.mem_cons.1 hx with rfl | hx
        · rw [hz] at hfx; cases hfx
        · have := i1 ⟨x, hx, hfx⟩; omega
      · have := i2 (fun x hx => hall x (by simp [hx])); omega
    · simp only [Bool.not_true, Bool.false_eq_true, if_false, List.length_cons]
      refine ⟨fun _ => ?_, fun hall => ?_⟩
      · have := i2 (fun x hx => by
          cases hfx : f x
          · rfl
          · have := hu x (by simp [hx]) z (by simp) hfx hz
            subst this
            exact absurd hx hnd.1)
        omega
      · have := hall z (by simp)
        rw [hz] at this; cases this
/-- A set without one member has one fewer, or as many if it was none. -/
theorem card_without {M p q : List (List Int)} {i a b : Nat} (hi : i < M.length) (hb : b < q.length) (h1 : ∀ u, Mem M i u → ∃ v, Mem p a v ∧ Same M u p v ∧ ¬ Same p v q b) (h2 : ∀ v, Mem p a v → ¬ Same p v q b → ∃ u, Mem M i u ∧ Same M u p v) :
    ((∃ v, Mem p a v ∧ Same p v q b) → cardN M i + 1 = cardN p a) ∧ ((∀ v, Mem p a v → ¬ Same p v q b) → cardN M i = cardN p a) := by
  have hL := cardL_reps p a
  have hnd : (cardL p a).Nodup := by
    rw [List.nodup_iff_pairwise_ne]
    exact List.Pairwise.imp_of_mem (fun {x y} hx _ hxy e => by
      subst e
      exact hxy (Same.refl (hL.mem x hx).1)) hL.apart
  have hun : ∀ x ∈ cardL p a, ∀ y ∈ cardL p a, sameB p x q b = true → sameB p y q b = true → x = y := fun x hx y hy h3 h4 => by
    have e3 := (sameB_iff (hL.mem x hx).1 hb).1 h3
    have e4 := (sameB_iff (hL.mem y hy).1 hb).1 h4
    apply Classical.byContradiction
    intro hne
    exact pairwise_mem (R := fun a b => ¬ Same p a p b) (fun a b h h' => h h'.symm) hL.apart x hx y hy hne (e3.trans e4.symm)
  have hex : ∀ v, ∃ u, (v ∈ cardL p a ∧ ¬ Same p v q b) → (Mem M i u ∧ Same M u p v) := fun v => by
    by_cases hv : v ∈ cardL p a ∧ ¬ Same p v q b
    · obtain ⟨u, h3, h4⟩ := h2 v (hL.mem v hv.1) hv.2
      exact ⟨u, fun _ => ⟨h3, h4⟩⟩
    · exact ⟨0, fun h => absurd h hv⟩
  obtain ⟨g, hg⟩ := Classical.axiomOfChoice hex
  have hF : ∀ v, v ∈ ((cardL p a).filter fun x => !sameB p x q b) ↔ v ∈ cardL p a ∧ ¬ Same p v q b := fun v => by
    rw [List.mem_filter]
    constructor
    · rintro ⟨h3, h4⟩
      refine ⟨h3, fun hs => ?_⟩
      rw [(sameB_iff (hL.mem v h3).1 hb).2 hs] at h4; cases h4
    · rintro ⟨h3, h4⟩
      refine ⟨h3, ?_⟩
      cases e : sameB p v q b
      · rfl
      · exact absurd ((sameB_iff (hL.mem v h3).1 hb).1 e) h4
  have hR : Reps M i (((cardL p a).filter fun x => !sameB p x q b).map g) := by
    refine ⟨fun u hu => ?_, ?_, fun u hu => ?_⟩
    · obtain ⟨v, hv, rfl⟩ := List.mem_map.1 hu
      exact (hg v ((hF v).1 hv)).1
    · rw [List.pairwise_map]
      refine List.Pairwise.imp_of_mem (fun {x y} hx hy hxy hs => ?_) (hL.apart.filter _)
      have e1 := (hg x ((hF x).1 hx)).2
      have e2 := (hg y ((hF y).1 hy)).2
      exact hxy ((e1.symm.trans hs).trans e2)
    · obtain ⟨v, hv, hs, hns⟩ := h1 u hu
      obtain ⟨x, hx, hxs⟩ := hL.all v hv
      have hxn : ¬ Same p x q b := fun h => hns (hxs.symm.trans h)
      exact ⟨g x, List.mem_map.2 ⟨x, (hF x).2 ⟨hx, hxn⟩, rfl⟩, ((hg x ⟨hx, hxn⟩).2.trans hxs).trans hs.symm⟩
  have hc := card_eq hi hR
  rw [List.length_map] at hc
  obtain ⟨f1, f2⟩ := filter_one (f := fun x => sameB p x q b) hnd hun
  rw [hc, ← cardL_len p a]
  constructor
  · rintro ⟨v, hv, hs⟩
    obtain ⟨x, hx, hxs⟩ := hL.all v hv
    exact f1 ⟨x, hx, (sameB_iff (hL.mem x hx).1 hb).2 (hxs.trans hs)⟩
  · intro hno
    exact f2 fun x hx => by
      cases e : sameB p x q b
      · rfl
      · exact absurd ((sameB_iff (hL.mem x hx).1 hb).1 e) (hno x (hL.mem x hx))
end Go.Hyp
namespace Go.Hyp
/-- It has at most as many nodes as a picture may have. -/
def putB (P : List (List Int)) (m : Nat → Bool) : Bool := decide ((joinedL (putL P m) 0).length ≤ 5)
/-- The least picture of the set with these members, if it is told. -/
def putR (P : List (List Int)) (m : Nat → Bool) : List (List Int) := if putB P m = true then leastC (putL P m) 0 else []
theorem putR_no {P : List (List Int)} {m : Nat → Bool} (h : putB P m = false) : putR P m = [] := by unfold putR; rw [h]; rfl
theorem putR_yes {P : List (List Int)} {m : Nat → Bool} (h : putB P m = true) : putR P m = leastC (putL P m) 0 := by unfold putR; rw [h]; rfl
theorem put_pos (P : List (List Int)) (m : Nat → Bool) : 0 < (putL P m).length := by rw [putL_len]; omega
theorem putB_len {P : List (List Int)} {m : Nat → Bool} (h : putB P m = true) : (joinedL (putL P m) 0).length ≤ 5 := of_decide_eq_true h
theorem putR_pic {P : List (List Int)} {m : Nat → Bool} (h : putB P m = true) : picB (putR P m) = true := by rw [putR_yes h]; exact leastC_pic (put_pos P m) (putB_len h)
theorem putR_draws {P : List (List Int)} {m : Nat → Bool} (h : putB P m = true) : Same (putL P m) 0 (putR P m) 0 := by rw [putR_yes h]; exact leastC_draws (put_pos P m)
theorem putR_small (P : List (List Int)) (m : Nat → Bool) : (putR P m).length ≤ 1048576 ∧ lens (putR P m) ≤ 1048576 := by
  cases h : putB P m
  · rw [putR_no h]; exact ⟨by simp, by show 0 ≤ _; omega⟩
  · have h1 := picB_sq (putR_pic h)
    exact sq_small h1.1 h1.2.2
/-- Sets that are the same are put together to the same picture. -/
theorem put_eq {P Q : List (List Int)} {m m' : Nat → Bool} (h : Same (putL P m) 0 (putL Q m') 0) : putB P m = putB Q m' ∧ putR P m = putR Q m' := by
  have e : putB P m = putB Q m' := by unfold putB; rw [joined_same_len (put_pos P m) (put_pos Q m') h]
  refine ⟨e, ?_⟩
  cases hb : putB P m
  · rw [putR_no hb, putR_no (e ▸ hb)]
  · rw [putR_yes hb, putR_yes (e ▸ hb)]
    exact (leastC_same (put_pos P m) (put_pos Q m') (by have := putB_len hb; omega)).2 h
/-- A set that a picture draws is told. -/
theorem put_told {P p : List (List Int)} {m : Nat → Bool} {i : Nat} (hi : i < p.length) (h5 : p.length ≤ 5) (h : Same (putL P m) 0 p i) : putB P m = true := by
  unfold putB
  rw [joined_same_len (put_pos P m) hi h]
  have := (joinedL_fit hi).len
  exact decide_eq_true (by omega)
theorem put_alike {P : List (List Int)} {m m' : Nat → Bool} (h : ∀ v, v < P.length → m v = m' v) : putL P m = putL P m' := by
  refine mat_congr fun i j hi hj => ?_
  unfold putF
  by_cases h1 : 1 ≤ j
  · by_cases h0 : i = 0
    · rw [if_pos h0, if_pos h0, h (j - 1) (by omega)]
    · rw [if_neg h0, if_neg h0]
  · rw [decide_eq_false h1]; rfl
theorem putR_alike {P : List (List Int)} {m m' : Nat → Bool} (h : ∀ v, v < P.length → m v = m' v) : putB P m = putB P m' ∧ putR P m = putR P m' := by
  unfold putR putB
  rw [put_alike h]
  exact ⟨rfl, rfl⟩
/-! ### the least of the least -/
theorem node0 {x : List (List Int)} (h : picB x = true) : nodeB x 0 = true := by
  have := (picB_sq h).2
  unfold nodeB
  rw [h, decide_eq_true (by omega), decide_eq_true (by omega)]; rfl
/-- A picture is the least one of its first node. -/
def leastB (p : List (List Int)) : Bool := picB p && decide (leastC p 0 = p)
theorem leastB_least {p : List (List Int)} {i : Nat} (hi : i < p.length) (h5 : (joinedL p i).length ≤ 5) : leastB (leastC p i) = true := by
  have hp := leastC_pic hi h5
  have hl := (picB_sq hp).2.1
  unfold leastB
  rw [hp]
  have hs := leastC_draws hi
  have := ((leastC_same hi (j := 0) (q := leastC p i) (by omega) (by omega)).2 hs)
  rw [← this]
  simp
theorem leastB_put {P : List (List Int)} {m : Nat → Bool} (h : putB P m = true) : leastB (putR P m) = true := by
  rw [putR_yes h]
  exact leastB_least (put_pos P m) (putB_len h)
/-! ### both pictures beside each other -/
theorem bes_mem {p q : List (List Int)} {v : Nat} (hv : v < (besL p q).length) : (v < p.length ∧ Same p v (besL p q) v) ∨ (p.length ≤ v ∧ v - p.length < q.length ∧ Same q (v - p.length) (besL p q) v) := by
  rw [besL_len] at hv
  by_cases h : v < p.length
  · exact .inl ⟨h, bes_left h⟩
  · refine .inr ⟨by omega, by omega, ?_⟩
    have := bes_right (p := p) (q := q) (i := v - p.length) (by omega)
    rwa [show p.length + (v - p.length) = v by omega] at this
/-! ### pairs -/
def pairF (p : List (List Int)) (a b v : Nat) : Bool := v == a || v == p.length + b
def pairB (p : List (List Int)) (a : Nat) (q : List (List Int)) (b : Nat) : Bool := putB (besL p q) (pairF p a b)
def pairR (p : List (List Int)) (a : Nat) (q : List (List Int)) (b : Nat) : List (List Int) := putR (besL p q) (pairF p a b)
theorem pairF_iff {p : List (List Int)} {a b v : Nat} : pairF p a b v = true ↔ v = a ∨ v = p.length + b := by unfold pairF; simp
theorem pair_is {p q x : List (List Int)} {a b j : Nat} (ha : a < p.length) (hb : b < q.length) (hj : j < x.length) (h1 : ∃ u, Mem x j u ∧ Same p a x u) (h2 : ∃ u, Mem x j u ∧ Same q b x u) (h3 : ∀ u, Mem x j u → Same p a x u ∨ Same q b x u) : Same (putL (besL p q) (pairF p a b)) 0 x j := by
  refine put_is hj (fun v hv hm => ?_) (fun u hu => ?_)
  · rcases pairF_iff.1 hm with rfl | rfl
    · obtain ⟨u, hu, hs⟩ := h1; exact ⟨u, hu, (bes_left ha).symm.trans hs⟩
    · obtain ⟨u, hu, hs⟩ := h2; exact ⟨u, hu, (bes_right hb).symm.trans hs⟩
  · rcases h3 u hu with hs | hs
    · exact ⟨a, by rw [besL_len]; omega, pairF_iff.2 (.inl rfl), (bes_left ha).symm.trans hs⟩
    · exact ⟨p.length + b, by rw [besL_len]; omega, pairF_iff.2 (.inr rfl), (bes_right hb).symm.trans hs⟩
theorem pair_has {p q x : List (List Int)} {a b j : Nat} (ha : a < p.length) (hb : b < q.length) (h : Same (putL (besL p q) (pairF p a b)) 0 x j) :
    (∃ u, Mem x j u ∧ Same p a x u) ∧ (∃ u, Mem x j u ∧ Same q b x u) ∧ ∀ u, Mem x j u → Same p a x u ∨ Same q b x u := by
  obtain ⟨h1, h2⟩ := put_has h
  refine ⟨?_, ?_, fun u hu => ?_⟩
  · obtain ⟨u, hu, hs⟩ := h1 a (by rw [besL_len]; omega) (pairF_iff.2 (.inl rfl))
    exact ⟨u, hu, (bes_left ha).trans hs⟩
  · obtain ⟨u, hu, hs⟩ := h1 (p.length + b) (by rw [besL_len]; omega) (pairF_iff.2 (.inr rfl))
    exact ⟨u, hu, (bes_right hb).trans hs⟩
  · obtain ⟨v, hv, hm, hs⟩ := h2 u hu
    rcases pairF_iff.1 hm with rfl | rfl
    · exact .inl ((bes_left ha).trans hs)
    · exact .inr ((bes_right hb).trans hs)
theorem pair_swap {p q : List (List Int)} {a b : Nat} (ha : a < p.length) (hb : b < q.length) : pairB p a q b = pairB q b p a ∧ pairR p a q b = pairR q b p a := by
  refine put_eq ?_
  obtain ⟨h1, h2, h3⟩ := pair_has hb ha (Same.refl (put_pos (besL q p) (pairF q b a)))
  exact pair_is ha hb (put_pos _ _) h2 h1 fun u hu => (h3 u hu).symm
theorem hasL_mem {p q : List (List Int)} {i j : Nat} (hj : j < q.length) : hasL p i q j = true ↔ ∃ v, Mem p i v ∧ Same p v q j := by
  rw [hasL_iff hj]
  constructor
  · rintro ⟨v, h1, h2, h3⟩; exact ⟨v, ⟨h1, h2⟩, h3⟩
  · rintro ⟨v, h1, h3⟩; exact ⟨v, h1.1, h1.2, h3⟩
/-- How many members a pair has. -/
theorem pair_card {p q x : List (List Int)} {a b : Nat} (ha : a < p.length) (hb : b < q.length) (hx : 0 < x.length) (h : Same (putL (besL p q) (pairF p a b)) 0 x 0) : cardN x 0 = if sameB p a q b = true then 1 else 2 := by
  obtain ⟨⟨u, hu, h1⟩, ⟨v, hv, h2⟩, h3⟩ := pair_has ha hb h
  split
  · rename_i hs
    have hs := (sameB_iff ha hb).1 hs
    refine card_eq hx (L := [u]) ⟨fun y hy => ?_, by simp, fun y hy => ⟨u, by simp, ?_⟩⟩
    · simp at hy; subst hy; exact hu
    · rcases h3 y hy with h4 | h4
      · exact h1.symm.trans h4
      · exact h1.symm.trans (hs.trans h4)
  · rename_i hs
    have hns : ¬ Same p a q b := fun h => hs ((sameB_iff ha hb).2 h)
    refine card_eq hx (L := [u, v]) ⟨fun y hy => ?_, ?_, fun y hy => ?_⟩
    · simp at hy
      rcases hy with rfl | rfl
      · exact hu
      · exact hv
    · simp
      exact fun h4 => hns (h1.trans (h4.trans h2.symm))
    · rcases h3 y hy with h4 | h4
      · exact ⟨u, by simp, h1.symm.trans h4⟩
      · exact ⟨v, by simp, h2.symm.trans h4⟩
/-- The set that has itself alone. -/
def ownP : List (List Int) := [[1]]
theorem ownP_mem {u : Nat} : Mem ownP 0 u ↔ u = 0 := by
  constructor
  · rintro ⟨h, _⟩; unfold ownP at h; simp at h; exact h
  · rintro rfl; exact ⟨by decide, by decide⟩
theorem pair_own : pairB ownP 0 ownP 0 = true ∧ pairR ownP 0 ownP 0 = ownP := by
  have hs : Same (putL (besL ownP ownP) (pairF ownP 0 0)) 0 ownP 0 :=
    pair_is (by decide) (by decide) (by decide) ⟨0, ownP_mem.2 rfl, Same.refl (by decide)⟩ ⟨0, ownP_mem.2 rfl, Same.refl (by decide)⟩ fun u hu => by
      rw [ownP_mem.1 hu]; exact .inl (Same.refl (by decide))
  have hb : pairB ownP 0 ownP 0 = true := put_told (p := ownP) (i := 0) (by decide) (by decide) hs
  refine ⟨hb, ?_⟩
  have hb2 : putB (besL ownP ownP) (pairF ownP 0 0) = true := hb
  show putR (besL ownP ownP) (pairF ownP 0 0) = ownP
  rw [putR_yes hb2]
  have h5 := putB_len hb2
  have e := (leastC_same (put_pos _ _) (p := putL (besL ownP ownP) (pairF ownP 0 0)) (q := ownP) (j := 0) (by decide) (by omega)).2 hs
  rw [e]
  have hf := joinedL_fit (p := ownP) (i := 0) (by decide)
  have hlen : (leastC ownP 0).length = 1 := by
    rw [leastC_len (by decide)]
    have := hf.len
    have := hf.pos
    have e1 : ownP.length = 1 := rfl
    omega
  refine (leastC_sq (by decide)).ext (q := ownP) (show rowsB 1 ownP = true by decide) hlen (fun i j hi hj => ?_)
  have hi0 : i = 0 := by omega
  have hj0 : j = 0 := by omega
  subst hi0 hj0
  have hd := leastC_draws (p := ownP) (i := 0) (by decide)
  obtain ⟨u, hu, hau, _⟩ := hd.to (k := 0) (by decide) (by decide)
  have : u = 0 := by omega
  subst this
  rw [hau]
  decide
/-! ### unions -/
def togF (p q : List (List Int)) (a b v : Nat) : Bool := arr (besL p q) a v || arr (besL p q) (p.length + b) v
def togB (p : List (List Int)) (a : Nat) (q : List (List Int)) (b : Nat) : Bool := putB (besL p q) (togF p q a b)
def togR (p : List (List Int)) (a : Nat) (q : List (List Int)) (b : Nat) : List (List Int) := putR (besL p q) (togF p q a b)
theorem togF_iff {p q : List (List Int)} {a b v : Nat} (ha : a < p.length) (hb : b < q.length) (hv : v < p.length + q.length) : togF p q a b v = true ↔ (v < p.length ∧ arr p a v = true) ∨ (p.length ≤ v ∧ arr q b (v - p.length) = true) := by
  unfold togF
  rw [besL_left ha hv, besL_right hb hv]
  simp
theorem tog_is {p q x : List (List Int)} {a b j : Nat} (ha : a < p.length) (hb : b < q.length) (hj : j < x.length) (h1 : ∀ v, Mem p a v → ∃ u, Mem x j u ∧ Same p v x u) (h2 : ∀ v, Mem q b v → ∃ u, Mem x j u ∧ Same q v x u)
    (h3 : ∀ u, Mem x j u → (∃ v, Mem p a v ∧ Same p v x u) ∨ (∃ v, Mem q b v ∧ Same q v x u)) : Same (putL (besL p q) (togF p q a b)) 0 x j := by
  refine put_is hj (fun v hv hm => ?_) (fun u hu => ?_)
  · rw [besL_len] at hv
    rcases (togF_iff ha hb hv).1 hm with ⟨hl, he⟩ | ⟨hl, he⟩
    · obtain ⟨u, hu, hs⟩ := h1 v ⟨hl, he⟩; exact ⟨u, hu, (bes_left hl).symm.trans hs⟩
    · obtain ⟨u, hu, hs⟩ := h2 (v - p.length) ⟨by omega, he⟩
      have := bes_right (p := p) (q := q) (i := v - p.length) (by omega)
      rw [show p.length + (v - p.length) = v by omega] at this
      exact ⟨u, hu, this.symm.trans hs⟩
  · rcases h3 u hu with ⟨v, hv, hs⟩ | ⟨v, hv, hs⟩
    · exact ⟨v, by rw [besL_len]; have := hv.1; omega, (togF_iff ha hb (by have := hv.1; omega)).2 (.inl ⟨hv.1, hv.2⟩), (bes_left hv.1).symm.trans hs⟩
    · have hl := hv.1
      refine ⟨p.length + v, by rw [besL_len]; omega, (togF_iff ha hb (by omega)).2 (.inr ⟨by omega, ?_⟩), (bes_right hv.1).symm.trans hs⟩
      rw [show p.length + v - p.length = v by omega]; exact hv.2
theorem tog_has {p q x : List (List Int)} {a b j : Nat} (ha : a < p.length) (hb : b < q.length) (h : Same (putL (besL p q) (togF p q a b)) 0 x j) :
    (∀ v, Mem p a v → ∃ u, Mem x j u ∧ Same p v x u) ∧ (∀ v, Mem q b v → ∃ u, Mem x j u ∧ Same q v x u) ∧ ∀ u, Mem x j u → (∃ v, Mem p a v ∧ Same p v x u) ∨ (∃ v, Mem q b v ∧ Same q v x u) := by
  obtain ⟨h1, h2⟩ := put_has h
  refine ⟨fun v hv => ?_, fun v hv => ?_, fun u hu => ?_⟩
  · obtain ⟨u, hu, hs⟩ := h1 v (by rw [besL_len]; have := hv.1; omega) ((togF_iff ha hb (by have := hv.1; omega)).2 (.inl ⟨hv.1, hv.2⟩))
    exact ⟨u, hu, (bes_left hv.1).trans hs⟩
  · have hl := hv.1
    obtain ⟨u, hu, hs⟩ := h1 (p.length + v) (by rw [besL_len]; omega) ((togF_iff ha hb (by omega)).2 (.inr ⟨by omega, by rw [show p.length + v - p.length = v by omega]; exact hv.2⟩))
    exact ⟨u, hu, (bes_right hv.1).trans hs⟩
  · obtain ⟨v, hv, hm, hs⟩ := h2 u hu
    rw [besL_len] at hv
    rcases (togF_iff ha hb hv).1 hm with ⟨hl, he⟩ | ⟨hl, he⟩
    · exact .inl ⟨v, ⟨hl, he⟩, (bes_left hl).trans hs⟩
    · have := bes_right (p := p) (q := q) (i := v - p.length) (by omega)
      rw [show p.length + (v - p.length) = v by omega] at this
      exact .inr ⟨v - p.length, ⟨by omega, he⟩, this.trans hs⟩
theorem tog_swap {p q : List (List Int)} {a b : Nat} (ha : a < p.length) (hb : b < q.length) : togB p a q b = togB q b p a ∧ togR p a q b = togR q b p a := by
  refine put_eq ?_
  obtain ⟨h1, h2, h3⟩ := tog_has hb ha (Same.refl (put_pos (besL q p) (togF q p b a)))
  exact tog_is ha hb (put_pos _ _) h2 h1 fun u hu => (h3 u hu).symm
theorem tog_own {p : List (List Int)} {a : Nat} (ha : a < p.length) : Same (putL (besL p p) (togF p p a a)) 0 p a :=
  tog_is ha ha ha (fun v hv => ⟨v, hv, Same.refl hv.1⟩) (fun v hv => ⟨v, hv, Same.refl hv.1⟩) fun u hu => .inl ⟨u, hu, Same.refl hu.1⟩
theorem inL_mem {p q : List (List Int)} {i j : Nat} : inL p i q j = true ↔ ∀ v, Mem p i v → ∃ u, Mem q j u ∧ Same q u p v := by
  rw [inL_iff]
  constructor
  · intro h v hv
    obtain ⟨u, h1, h2, h3⟩ := h v hv.1 hv.2
    exact ⟨u, ⟨h1, h2⟩, h3⟩
  · intro h v h1 h2
    obtain ⟨u, h3, h4⟩ := h v ⟨h1, h2⟩
    exact ⟨u, h3.1, h3.2, h4⟩
theorem tog_card {p q x : List (List Int)} {a b j : Nat} (ha : a < p.length) (hb : b < q.length) (h : Same (putL (besL p q) (togF p q a b)) 0 x j) : cardN x j ≤ cardN p a + cardN q b :=
  card_union fun u hu => by
    rcases (tog_has ha hb h).2.2 u hu with ⟨v, hv, hs⟩ | ⟨v, hv, hs⟩
    · exact .inl ⟨v, hv, hs.symm⟩
    · exact .inr ⟨v, hv, hs.symm⟩
/-! ### sets without one -/
def woF (p : List (List Int)) (a : Nat) (q : List (List Int)) (b v : Nat) : Bool := arr p a v && !sameB p v q b
def woB (p : List (List Int)) (a : Nat) (q : List (List Int)) (b : Nat) : Bool := putB p (woF p a q b)
def woR (p : List (List Int)) (a : Nat) (q : List (List Int)) (b : Nat) : List (List Int) := putR p (woF p a q b)
theorem woF_iff {p q : List (List Int)} {a b v : Nat} (hv : v < p.length) (hb : b < q.length) : woF p a q b v = true ↔ Mem p a v ∧ ¬ Same p v q b := by
  unfold woF Mem
  rw [← sameB_iff hv hb]
  simp [hv]
theorem wo_has {p q x : List (List Int)} {a b j : Nat} (hb : b < q.length) (h : Same (putL p (woF p a q b)) 0 x j) :
    (∀ v, Mem p a v → ¬ Same p v q b → ∃ u, Mem x j u ∧ Same x u p v) ∧ (∀ u, Mem x j u → ∃ v, Mem p a v ∧ Same x u p v ∧ ¬ Same p v q b) := by
  obtain ⟨h1, h2⟩ := put_has h
  refine ⟨fun v hv hn => ?_, fun u hu => ?_⟩
  · obtain ⟨u, hu, hs⟩ := h1 v hv.1 ((woF_iff hv.1 hb).2 ⟨hv, hn⟩)
    exact ⟨u, hu, hs.symm⟩
  · obtain ⟨v, hv, hm, hs⟩ := h2 u hu
    obtain ⟨h3, h4⟩ := (woF_iff hv hb).1 hm
    exact ⟨v, h3, hs.symm, h4⟩
theorem wo_not {p q x : List (List Int)} {a b j : Nat} (hb : b < q.length) (h : Same (putL p (woF p a q b)) 0 x j) : hasL x j q b = false := by
  cases e : hasL x j q b
  · rfl
  · obtain ⟨u, hu, hs⟩ := (hasL_mem hb).1 e
    obtain ⟨v, _, h1, h2⟩ := (wo_has hb h).2 u hu
    exact absurd (h1.symm.trans hs) h2
theorem wo_in {p q x : List (List Int)} {a b j : Nat} (hb : b < q.length) (h : Same (putL p (woF p a q b)) 0 x j) : inL x j p a = true :=
  inL_mem.2 fun u hu => by
    obtain ⟨v, h1, h2, _⟩ := (wo_has hb h).2 u hu
    exact ⟨v, h1, h2.symm⟩
theorem wo_card {p q x : List (List Int)} {a b j : Nat} (hj : j < x.length) (hb : b < q.length) (h : Same (putL p (woF p a q b)) 0 x j) : cardN x j + (if hasL p a q b = true then 1 else 0) = cardN p a := by
  obtain ⟨h1, h2⟩ := wo_has hb h
  obtain ⟨c1, c2⟩ := card_without hj hb h2 h1
  split
  · rename_i e
    exact c1 ((hasL_mem hb).1 e)
  · rename_i e
    exact c2 fun v hv hs => e ((hasL_mem hb).2 ⟨v, hv, hs⟩)
theorem wo_same {p q x : List (List Int)} {a b j : Nat} (ha : a < p.length) (hb : b < q.length) (h : Same (putL p (woF p a q b)) 0 x j) (hn : hasL p a q b = false) : Same x j p a := by
  refine h.symm.trans (put_is ha (fun v hv hm => ?_) (fun u hu => ?_))
  · exact ⟨v, ((woF_iff hv hb).1 hm).1, Same.refl hv⟩
  · refine ⟨u, hu.1, (woF_iff hu.1 hb).2 ⟨hu, fun hs => ?_⟩, Same.refl hu.1⟩
    rw [(hasL_mem hb).2 ⟨u, hu, hs⟩] at hn; cases hn
end Go.Hyp
namespace Go.Hyp
/-! ### a least picture is the least of itself -/
theorem leastB_R {p : List (List Int)} {n : Int} (h : nodeB p n = true) : leastB (leastR p n) = true := by
  obtain ⟨i, rfl, hi, hp⟩ := nodeB_nat h
  rw [leastR_yes h]
  have := (joinedL_fit hi).len
  have := (picB_sq hp).2.2
  exact leastB_least hi (by omega)
theorem leastB_eq {x : List (List Int)} (h : leastB x = true) : leastR x 0 = x := by
  unfold leastB at h
  simp only [Bool.and_eq_true, decide_eq_true_eq] at h
  have e := leastR_yes (i := 0) (node0 h.1)
  exact e.trans h.2
/-! ### the members of the least picture are counted by its first row -/
theorem many_card {p : List (List Int)} {i : Nat} (h : nodeB p i = true) : manyI p i = (cardN p i : Int) := by
  unfold manyI cardN
  rw [if_pos h, Int.toNat_natCast]
theorem many_row {p : List (List Int)} {i : Nat} (h : nodeB p i = true) : ((arrL (leastR p i) 0 (leastR p i).length).length : Int) = manyI p i := by
  obtain ⟨i', e, hi, hp⟩ := nodeB_nat h
  obtain rfl : i = i' := by omega
  rw [many_card h, leastR_yes h]
  have hl := (picB_sq (leastR_pic h)).2.1
  rw [leastR_yes h] at hl
  have hr := leastC_red hi
  rw [← card_red (p := leastC p i) (i := 0) (by omega) (fun a b ha hb hs => hr a b ha hb hs), card_same (leastC_draws hi)]
/-! ### the kinds that are reached, each once -/
def kstep (S : List Int) (x : Int) : List Int := if x ∈ S then S else S ++ [x]
def kfold (R : List Int) : List Int := R.foldl kstep []
theorem kfold_snoc (R : List Int) (x : Int) : kfold (R ++ [x]) = kstep (kfold R) x := by unfold kfold; rw [List.foldl_append]; rfl
theorem kfold_is : ∀ R : List Int, (kfold R).Nodup ∧ ∀ x, x ∈ kfold R ↔ x ∈ R := by
  intro R
  induction R using rev_ind2 with
  | nil => exact ⟨by simp [kfold], fun x => by simp [kfold]⟩
  | snoc R y ih =>
    rw [kfold_snoc]
    unfold kstep
    split
    · rename_i h
      refine ⟨ih.1, fun x => ?_⟩
      rw [ih.2, List.mem_append]
      constructor
      · exact .inl
      · rintro (h1 | h1)
        · exact h1
        · simp at h1; subst h1; exact (ih.2 _).1 h
    · rename_i h
      refine ⟨?_, fun x => by rw [List.mem_append, List.mem_append, ih.2]⟩
      rw [List.nodup_append]
      refine ⟨ih.1, by simp, fun a ha b hb e => ?_⟩
      simp at hb
      subst hb
      subst e
      exact h ha
theorem kfold_le (R : List Int) : (kfold R).length ≤ R.length :=
  (kfold_is R).1.length_le_of_subset fun x hx => ((kfold_is R).2 x).1 hx
theorem kfold_joined {p : List (List Int)} {i : Nat} (hi : i < p.length) : (kfold ((reachL p i).map fun v => ((kind p v : Nat) : Int))).length = (joinedL p i).length := by
  have hf := joinedL_fit hi
  have hnd : ((joinedL p i).map fun v => ((kind p v : Nat) : Int)).Nodup := by
    rw [List.nodup_iff_pairwise_ne, List.pairwise_map, List.pairwise_iff_getElem]
    intro a b ha hb hab e
    have := hf.apart a b hab hb
    rw [getD_nat ha, getD_nat hb] at this
    exact this (by omega)
  have hk := kfold_is ((reachL p i).map fun v => ((kind p v : Nat) : Int))
  have h1 : (kfold ((reachL p i).map fun v => ((kind p v : Nat) : Int))).length ≤ ((joinedL p i).map fun v => ((kind p v : Nat) : Int)).length :=
    hk.1.length_le_of_subset fun x hx => by
      obtain ⟨v, hv, rfl⟩ := List.mem_map.1 ((hk.2 x).1 hx)
      obtain ⟨h2, h3⟩ := (reachL_mem hi).1 hv
      obtain ⟨a, ha, e⟩ := hf.all v h2 h3
      refine List.mem_map.2 ⟨(joinedL p i)[a], List.getElem_mem ha, ?_⟩
      rw [getD_nat ha] at e
      rw [e]
  have h2 : ((joinedL p i).map fun v => ((kind p v : Nat) : Int)).length ≤ (kfold ((reachL p i).map fun v => ((kind p v : Nat) : Int))).length :=
    hnd.length_le_of_subset fun x hx => by
      obtain ⟨v, hv, rfl⟩ := List.mem_map.1 hx
      refine (hk.2 _).2 (List.mem_map.2 ⟨v, ?_, rfl⟩)
      obtain ⟨a, ha, rfl⟩ := List.getElem_of_mem hv
      have := hf.node a ha
      rw [getD_nat ha] at this
      exact (reachL_mem hi).2 this
  rw [List.length_map] at h1 h2
  omega
/-! ### members of least pictures -/
theorem has_least {p q : List (List Int)} {a b : Int} (h1 : nodeB p a = true) (h2 : nodeB q b = true) : hasB (leastR p a) 0 (leastR q b) 0 = hasB p a q b := by
  obtain ⟨i, rfl, hi, hp⟩ := nodeB_nat h1
  obtain ⟨j, rfl, hj, hq⟩ := nodeB_nat h2
  have n1 := node0 (leastR_pic h1)
  have n2 := node0 (leastR_pic h2)
  have l2 := (picB_sq (leastR_pic h2)).2.1
  rw [hasB_yes h1 h2]
  have e := hasB_yes (p := leastR p i) (q := leastR q j) (i := 0) (j := 0) n1 n2
  refine Eq.trans e ?_
  rw [leastR_yes h1, leastR_yes h2] at *
  have d1 := leastC_draws hi
  have d2 := leastC_draws hj
  rw [Bool.eq_iff_iff, hasL_mem (by omega), hasL_mem hj]
  constructor
  · rintro ⟨v, hv, hs⟩
    obtain ⟨u, hu, hau, hus⟩ := d1.symm.to hv.1 hv.2
    exact ⟨u, ⟨hu, hau⟩, hus.symm.trans (hs.trans d2.symm)⟩
  · rintro ⟨v, hv, hs⟩
    obtain ⟨u, hu, hau, hus⟩ := d1.to hv.1 hv.2
    exact ⟨u, ⟨hu, hau⟩, hus.symm.trans (hs.trans d2)⟩
theorem same_least {p q : List (List Int)} {a b : Int} (h1 : nodeB p a = true) (h2 : nodeB q b = true) : decide (leastR p a = leastR q b) = sameSetB p a q b := by
  obtain ⟨i, rfl, hi, hp⟩ := nodeB_nat h1
  obtain ⟨j, rfl, hj, hq⟩ := nodeB_nat h2
  rw [Bool.eq_iff_iff, sameSetB_iff h1 h2, leastR_yes h1, leastR_yes h2, decide_eq_true_eq]
  have := (joinedL_fit hi).len
  have := (picB_sq hp).2.2
  exact leastC_same hi hj (by omega)
theorem same_draws {p : List (List Int)} {a : Int} (h1 : nodeB p a = true) : sameSetB p a (leastR p a) 0 = true := by
  obtain ⟨i, rfl, hi, hp⟩ := nodeB_nat h1
  have n1 := node0 (leastR_pic h1)
  have e := (sameSetB_iff (p := p) (q := leastR p i) (i := i) (j := 0) h1 n1).2 (by rw [leastR_yes h1]; exact leastC_draws hi)
  exact e
end Go.Hyp
