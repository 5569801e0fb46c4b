/- The nodes that are reached: impl.reachedFrom. Joined pictures: nodes that draw the same set are one. No program in sight. -/
import Derived.Test.YtfjodcfbhpglhaaM7
import Derived.Test.YtfjodcfbhpglhaaM8
namespace Go.Hyp
open Go.RowKit Go.Deep
/-- j is reached from i by at most r arrows. -/
def reaN (p : List (List Int)) (i : Nat) : Nat → Nat → Bool
  | 0, j => i == j
  | r + 1, j => reaN p i r j || (List.range p.length).any fun k => reaN p i r k && arr p k j
/-- j is reached from i. -/
def Rea (p : List (List Int)) (i j : Nat) : Prop := ∃ r, reaN p i r j = true
theorem Rea.refl (p : List (List Int)) (i : Nat) : Rea p i i := ⟨0, by simp [reaN]⟩
theorem Rea.step {p : List (List Int)} {i k j : Nat} (h : Rea p i k) (hk : k < p.length) (ha : arr p k j = true) : Rea p i j := by
  obtain ⟨r, hr⟩ := h
  refine ⟨r + 1, ?_⟩
  unfold reaN
  rw [Bool.or_eq_true]
  right
  rw [List.any_eq_true]
  exact ⟨k, List.mem_range.2 hk, by rw [hr, ha]; rfl⟩
theorem Rea.ind {p : List (List Int)} {i : Nat} {Q : Nat → Prop} (h0 : Q i) (hs : ∀ k j, Q k → k < p.length → arr p k j = true → Q j) : ∀ j, Rea p i j → Q j := by
  have key : ∀ r j, reaN p i r j = true → Q j := by
    intro r
    induction r with
    | zero => intro j h; simp [reaN] at h; subst h; exact h0
    | succ r ih =>
      intro j h
      unfold reaN at h
      rw [Bool.or_eq_true] at h
      rcases h with h | h
      · exact ih j h
      · rw [List.any_eq_true] at h
        obtain ⟨k, hk, h⟩ := h
        rw [Bool.and_eq_true] at h
        exact hs k j (ih k h.1) (List.mem_range.1 hk) h.2
  exact fun j ⟨r, h⟩ => key r j h
/-- The list of all nodes that are reached, in order. -/
def IsReach (p : List (List Int)) (i : Nat) (L : List Int) : Prop := L.Pairwise (· < ·) ∧ ∀ x, x ∈ L ↔ ∃ k : Nat, x = k ∧ k < p.length ∧ Rea p i k
theorem sorted_unique : ∀ {L M : List Int}, L.Pairwise (· < ·) → M.Pairwise (· < ·) → (∀ x, x ∈ L ↔ x ∈ M) → L = M := by
  intro L
  induction L with
  | nil =>
    intro M _ _ h
    cases M with
    | nil => rfl
    | cons y M => exact absurd ((h y).2 (by simp)) (by simp)
  | cons x L ih =>
    intro M hL hM h
    cases M with
    | nil => exact absurd ((h x).1 (by simp)) (by simp)
    | cons y M =>
      rw [List.pairwise_cons] at hL hM
      have exy : x = y := by
        rcases Int.lt_trichotomy x y with hlt | he | hgt
        · have := (h x).1 (by simp)
          rcases List.mem_cons.1 this with e | e
          · exact e
          · have := hM.1 x e; omega
        · exact he
        · have := (h y).2 (by simp)
          rcases List.mem_cons.1 this with e | e
          · exact e.symm
          · have := hL.1 y e; omega
      subst exy
      have : L = M := ih hL.2 hM.2 fun z => by
        constructor
        · intro hz
          rcases List.mem_cons.1 ((h z).1 (by simp [hz])) with e | e
          · have := hL.1 z hz; omega
          · exact e
        · intro hz
          rcases List.mem_cons.1 ((h z).2 (by simp [hz])) with e | e
          · have := hM.1 z hz; omega
          · exact e
      rw [this]
theorem IsReach.unique {p : List (List Int)} {i : Nat} {L M : List Int} (h : IsReach p i L) (k : IsReach p i M) : L = M :=
  sorted_unique h.1 k.1 fun x => (h.2 x).trans (k.2 x).symm
theorem srt_mem {l : List Int} {x : Int} : x ∈ srt l ↔ x ∈ l := by unfold srt; exact List.mem_mergeSort
theorem srt_len (l : List Int) : (srt l).length = l.length := by unfold srt; exact (List.mergeSort_perm l _).length_eq
theorem srt_le (l : List Int) : (srt l).Pairwise (· ≤ ·) := by
  have := List.pairwise_mergeSort (le := fun x y : Int => decide (x ≤ y)) (fun a b c h1 h2 => by simp at h1 h2 ⊢; omega) (fun a b => by simp; omega) l
  unfold srt
  exact this.imp (by intro a b h; simpa using h)
theorem lt_of_le_nodup : ∀ {l : List Int}, l.Pairwise (· ≤ ·) → l.Nodup → l.Pairwise (· < ·) := by
  intro l
  induction l with
  | nil => intro _ _; exact List.Pairwise.nil
  | cons x l ih =>
    intro h1 h2
    rw [List.pairwise_cons] at h1 ⊢
    rw [List.nodup_cons] at h2
    refine ⟨fun y hy => ?_, ih h1.2 h2.2⟩
    have := h1.1 y hy
    have hne : x ≠ y := fun e => h2.1 (e ▸ hy)
    omega
theorem srt_lt {l : List Int} (h : l.Nodup) : (srt l).Pairwise (· < ·) := lt_of_le_nodup (srt_le l) (((List.mergeSort_perm l _).nodup_iff).2 h)
/-- The state of the search behind k nodes. -/
structure Srch (p : List (List Int)) (i k : Nat) (L : List Int) : Prop where
  nodup : L.Nodup
  nodes : ∀ x ∈ L, ∃ a : Nat, x = a ∧ a < p.length ∧ Rea p i a
  first : (i : Int) ∈ L
  shut : ∀ t a : Nat, t < k → L[t]? = some (a : Int) → ∀ b, b < p.length → arr p a b = true → (b : Int) ∈ L
theorem Srch.start {p : List (List Int)} {i : Nat} (h : i < p.length) : Srch p i 0 [(i : Int)] :=
  ⟨by simp, fun x hx => by simp at hx; exact ⟨i, hx, h, Rea.refl p i⟩, by simp, fun t a ht => by omega⟩
theorem Srch.len {p : List (List Int)} {i k : Nat} {L : List Int} (h : Srch p i k L) : L.length ≤ p.length := by
  have := h.nodup.length_le_of_subset (l₂ := (List.range p.length).map Int.ofNat) (fun x hx => by
    obtain ⟨a, rfl, ha, _⟩ := h.nodes x hx
    exact List.mem_map.2 ⟨a, List.mem_range.2 ha, rfl⟩)
  simpa using this
theorem Srch.add {p : List (List Int)} {i k a b : Nat} {L : List Int} (h : Srch p i k L) (hk : L[k]? = some (a : Int)) (hb : b < p.length) (hab : arr p a b = true) (hn : (b : Int) ∉ L) : Srch p i k (L ++ [(b : Int)]) := by
  have hka : (a : Int) ∈ L := List.mem_of_getElem? hk
  have hkl : k < L.length := by
    have := List.getElem?_eq_some_iff.1 hk
    exact this.1
  obtain ⟨a', e, ha, hr⟩ := h.nodes _ hka
  have e : a = a' := by omega
  subst e
  refine ⟨List.nodup_append.2 ⟨h.nodup, by simp, fun x hx y hy => by simp at hy; subst hy; exact fun e => hn (e ▸ hx)⟩, fun x hx => ?_, by simp [h.first], fun t c ht htc d hd hcd => ?_⟩
  · rcases List.mem_append.1 hx with hx | hx
    · exact h.nodes x hx
    · simp at hx; exact ⟨b, hx, hb, hr.step ha hab⟩
  · rw [List.getElem?_append_left (by omega)] at htc
    have := h.shut t c ht htc d hd hcd
    simp [this]
theorem Srch.next {p : List (List Int)} {i k a : Nat} {L : List Int} (h : Srch p i k L) (hk : L[k]? = some (a : Int)) (hall : ∀ b, b < p.length → arr p a b = true → (b : Int) ∈ L) : Srch p i (k + 1) L :=
  ⟨h.nodup, h.nodes, h.first, fun t c ht htc d hd hcd => by
    rcases Nat.lt_or_ge t k with h1 | h1
    · exact h.shut t c h1 htc d hd hcd
    · have e : t = k := by omega
      subst e
      rw [hk] at htc
      have e0 : (a : Int) = c := by simpa using htc
      have e : a = c := by omega
      subst e
      exact hall d hd hcd⟩
theorem Srch.done {p : List (List Int)} {i : Nat} {L : List Int} (h : Srch p i L.length L) (hs : Sq p) : IsReach p i (srt L) := by
  refine ⟨srt_lt h.nodup, fun x => ?_⟩
  rw [srt_mem]
  constructor
  · exact h.nodes x
  · rintro ⟨k, rfl, hk, hr⟩
    have key : ∀ j, Rea p i j → j < p.length → (j : Int) ∈ L := by
      refine Rea.ind (Q := fun j => j < p.length → (j : Int) ∈ L) (fun _ => h.first) (fun k j hQ hk ha hj => ?_)
      obtain ⟨t, ht⟩ := List.mem_iff_getElem?.1 (hQ hk)
      have htl := (List.getElem?_eq_some_iff.1 ht).1
      exact h.shut t k htl ht j hj ha
    exact key k hr hk
/-- A call that hands back the nodes that are reached, in new memory. -/
def RetReach (E : Nat) (p : List (List Int)) (i : Nat) (w : World) (e : Ending) (w' : World) : Prop :=
  ∃ L a c, e = .returned (.slice a (L : List Int).length c) ∧ IsReach p i L ∧ L.length ≤ p.length ∧ OwI w' E w.heap.size w'.heap.size a c L ∧ Below w.heap.size w w'
end Go.Hyp
namespace Go.Proofs.Ytfjodcfbhpglhaa
open Go.RowKit Go.Hyp Go.Deep

end Go.Proofs.Ytfjodcfbhpglhaa
namespace Go.Hyp
theorem kind_same {p : List (List Int)} {a : Nat} (ha : a < p.length) : Same p a p (kind p a) := by
  obtain ⟨h1, h2, _, _⟩ := kind_spec ha
  exact (simB_iff ha h1).1 h2
theorem kind_iff {p : List (List Int)} {a b : Nat} (ha : a < p.length) (hb : b < p.length) : kind p a = kind p b ↔ Same p a p b := by
  obtain ⟨a1, a2, a3, a4⟩ := kind_spec ha
  obtain ⟨b1, b2, b3, b4⟩ := kind_spec hb
  constructor
  · intro h
    have h1 := kind_same ha
    rw [h] at h1
    exact h1.trans (kind_same hb).symm
  · intro h
    have h1 : Same p a p (kind p b) := h.trans (kind_same hb)
    have h2 : Same p b p (kind p a) := h.symm.trans (kind_same ha)
    rcases Nat.lt_trichotomy (kind p a) (kind p b) with hlt | he | hgt
    · have := b4 _ hlt
      rw [(simB_iff hb a1).2 h2] at this; cases this
    · exact he
    · have := a4 _ hgt
      rw [(simB_iff ha b1).2 h1] at this; cases this
/-- An arrow from u to some node of v's kind. -/
def arrK (p : List (List Int)) (u v : Nat) : Bool := (List.range p.length).any fun j => arr p u j && (kind p j == kind p v)
theorem arrK_iff {p : List (List Int)} {u v : Nat} : arrK p u v = true ↔ ∃ j, j < p.length ∧ arr p u j = true ∧ kind p j = kind p v := by
  unfold arrK
  rw [List.any_eq_true]
  constructor
  · rintro ⟨j, hj, h⟩
    rw [Bool.and_eq_true, beq_iff_eq] at h
    exact ⟨j, List.mem_range.1 hj, h⟩
  · rintro ⟨j, hj, h1, h2⟩
    exact ⟨j, List.mem_range.2 hj, by rw [h1, h2]; simp⟩
theorem arrK_kind {p : List (List Int)} {u u' v v' : Nat} (hu : u < p.length) (hu' : u' < p.length) (e : kind p u = kind p u') (ev : kind p v = kind p v') : arrK p u v = arrK p u' v' := by
  have key : ∀ x y : Nat, x < p.length → y < p.length → kind p x = kind p y → ∀ c c', kind p c = kind p c' → arrK p x c = true → arrK p y c' = true := by
    intro x y hx hy exy c c' ec h
    obtain ⟨j, hj, h1, h2⟩ := arrK_iff.1 h
    obtain ⟨j', hj', h1', h2'⟩ := ((kind_iff hx hy).1 exy).to hj h1
    exact arrK_iff.2 ⟨j', hj', h1', ((kind_iff hj hj').2 h2').symm.trans (h2.trans ec)⟩
  rw [Bool.eq_iff_iff]
  exact ⟨key u u' hu hu' e v v' ev, key u' u hu' hu e.symm v' v ev.symm⟩
/-- One node of each kind, in the order of their first coming. -/
def jstep (p : List (List Int)) (l : List Nat) (v : Nat) : List Nat := if l.any (fun u => kind p u == kind p v) then l else l ++ [v]
def jfold (p : List (List Int)) (i : Nat) (R : List Nat) : List Nat := R.foldl (jstep p) [i]
theorem jfold_snoc (p : List (List Int)) (i : Nat) (R : List Nat) (v : Nat) : jfold p i (R ++ [v]) = jstep p (jfold p i R) v := by unfold jfold; rw [List.foldl_append]; rfl
/-- What is kept of such a list. -/
structure JList (p : List (List Int)) (i : Nat) (R l : List Nat) : Prop where
  head : l[0]? = some i
  apart : ∀ a b : Nat, a < b → ∀ u v, l[a]? = some u → l[b]? = some v → kind p u ≠ kind p v
  have_ : ∀ v ∈ R, ∃ u ∈ l, kind p u = kind p v
  sub : ∀ u ∈ l, u = i ∨ u ∈ R
theorem jstep_yes {p : List (List Int)} {l : List Nat} {v u : Nat} (hu : u ∈ l) (e : kind p u = kind p v) : jstep p l v = l := by
  unfold jstep; rw [if_pos]; exact List.any_eq_true.2 ⟨u, hu, by rw [e]; simp⟩
theorem jstep_no {p : List (List Int)} {l : List Nat} {v : Nat} (h : ∀ u ∈ l, kind p u ≠ kind p v) : jstep p l v = l ++ [v] := by
  unfold jstep
  rw [if_neg]
  intro hh
  obtain ⟨u, hu, e⟩ := List.any_eq_true.1 hh
  exact h u hu (by simpa using e)
theorem rev_ind2 {α : Type} {P : List α → Prop} (nil : P []) (snoc : ∀ (L : List α) (v : α), P L → P (L ++ [v])) : ∀ L, P L := by
  have key : ∀ M : List α, P M.reverse := by
    intro M
    induction M with
    | nil => exact nil
    | cons v M ih => rw [List.reverse_cons]; exact snoc _ _ ih
  intro L
  have := key L.reverse
  rwa [List.reverse_reverse] at this
theorem jfold_list (p : List (List Int)) (i : Nat) : ∀ R, JList p i R (jfold p i R) := by
  intro R
  induction R using rev_ind2 with
  | nil =>
    refine ⟨rfl, fun a b hab u v ha hb => ?_, fun v hv => by simp at hv, fun u hu => .inl (by simpa [jfold] using hu)⟩
    have : b < 1 := by
      have := (List.getElem?_eq_some_iff.1 hb).1
      simpa [jfold] using this
    omega
  | snoc R v ih =>
    rw [jfold_snoc]
    by_cases h : ∃ u ∈ jfold p i R, kind p u = kind p v
    · obtain ⟨u, hu, e⟩ := h
      rw [jstep_yes hu e]
      refine ⟨ih.head, ih.apart, fun x hx => ?_, fun x hx => ?_⟩
      · rcases List.mem_append.1 hx with hx | hx
        · exact ih.have_ x hx
        · simp at hx; subst hx; exact ⟨u, hu, e⟩
      · rcases ih.sub x hx with h | h
        · exact .inl h
        · exact .inr (by simp [h])
    · have hno : ∀ u ∈ jfold p i R, kind p u ≠ kind p v := fun u hu e => h ⟨u, hu, e⟩
      rw [jstep_no hno]
      have hpos : 0 < (jfold p i R).length := (List.getElem?_eq_some_iff.1 ih.head).1
      refine ⟨by rw [List.getElem?_append_left hpos]; exact ih.head, fun a b hab x y ha hb => ?_, fun x hx => ?_, fun x hx => ?_⟩
      · rcases Nat.lt_or_ge b (jfold p i R).length with hbl | hbl
        · rw [List.getElem?_append_left (by omega)] at ha
          rw [List.getElem?_append_left hbl] at hb
          exact ih.apart a b hab x y ha hb
        · have hb2 : b < ((jfold p i R) ++ [v]).length := (List.getElem?_eq_some_iff.1 hb).1
          rw [List.length_append] at hb2
          have hbe : b = (jfold p i R).length := by simp at hb2; omega
          subst hbe
          rw [List.getElem?_append_left hab] at ha
          rw [List.getElem?_append_right (Nat.le_refl _)] at hb
          simp at hb
          subst hb
          exact hno x (List.mem_of_getElem? ha)
      · rcases List.mem_append.1 hx with hx | hx
        · obtain ⟨u, hu, e⟩ := ih.have_ x hx
          exact ⟨u, by simp [hu], e⟩
        · simp at hx; subst hx; exact ⟨x, by simp, rfl⟩
      · rcases List.mem_append.1 hx with hx | hx
        · rcases ih.sub x hx with h | h
          · exact .inl h
          · exact .inr (by simp [h])
        · simp at hx; subst hx; exact .inr (by simp)
/-- The picture of some nodes, with an arrow where there is one to the kind. -/
def joinM (p : List (List Int)) (l : List Nat) : List (List Int) := mat l.length l.length fun a b => arrK p (l.getD a 0) (l.getD b 0)
theorem joinM_len (p : List (List Int)) (l : List Nat) : (joinM p l).length = l.length := mat_len _ _ _
theorem joinM_arr {p : List (List Int)} {l : List Nat} {a b : Nat} (ha : a < l.length) (hb : b < l.length) : arr (joinM p l) a b = arrK p (l.getD a 0) (l.getD b 0) := mat_arr _ _ _ _ _ ha hb
/-- A list of nodes fit to be joined: it begins with i's kind, no two of one kind, all reached, and each that is reached has its kind there. -/
structure Fit (p : List (List Int)) (i : Nat) (l : List Nat) : Prop where
  pos : 0 < l.length
  head : kind p (l.getD 0 0) = kind p i
  node : ∀ a, a < l.length → l.getD a 0 < p.length ∧ Rea p i (l.getD a 0)
  apart : ∀ a b, a < b → b < l.length → kind p (l.getD a 0) ≠ kind p (l.getD b 0)
  all : ∀ v, v < p.length → Rea p i v → ∃ a, a < l.length ∧ kind p (l.getD a 0) = kind p v
theorem getD_nat {l : List Nat} {k : Nat} (h : k < l.length) : l.getD k 0 = l[k] := by simp [List.getD, h]
theorem jfold_fit2 {p : List (List Int)} {i i0 : Nat} {R : List Nat} (hi : i0 < p.length) (h0 : Rea p i i0) (hk : kind p i0 = kind p i) (hR : ∀ v, v ∈ R ↔ v < p.length ∧ Rea p i v) : Fit p i (jfold p i0 R) := by
  have h := jfold_list p i0 R
  have hpos : 0 < (jfold p i0 R).length := (List.getElem?_eq_some_iff.1 h.head).1
  refine ⟨hpos, ?_, fun a ha => ?_, fun a b hab hb => ?_, fun v hv hr => ?_⟩
  · rw [getD_nat hpos, (List.getElem?_eq_some_iff.1 h.head).2]
    exact hk
  · rw [getD_nat ha]
    rcases h.sub _ (List.getElem_mem ha) with e | e
    · rw [e]; exact ⟨hi, h0⟩
    · exact (hR _).1 e
  · refine h.apart a b hab _ _ ?_ ?_
    · rw [getD_nat (by omega)]; exact List.getElem?_eq_getElem _
    · rw [getD_nat hb]; exact List.getElem?_eq_getElem _
  · obtain ⟨u, hu, e⟩ := h.have_ v ((hR v).2 ⟨hv, hr⟩)
    obtain ⟨a, ha⟩ := List.mem_iff_getElem?.1 hu
    obtain ⟨ha1, ha2⟩ := List.getElem?_eq_some_iff.1 ha
    exact ⟨a, ha1, by rw [getD_nat ha1, ha2]; exact e⟩
theorem jfold_fit {p : List (List Int)} {i : Nat} {R : List Nat} (hi : i < p.length) (hR : ∀ v, v ∈ R ↔ v < p.length ∧ Rea p i v) : Fit p i (jfold p i R) := jfold_fit2 hi (Rea.refl p i) rfl hR
theorem Fit.len {p : List (List Int)} {i : Nat} {l : List Nat} (h : Fit p i l) : l.length ≤ p.length := by
  have hnd : l.Nodup := by
    rw [List.nodup_iff_pairwise_ne, List.pairwise_iff_getElem]
    intro a b ha hb hab e
    have := h.apart a b hab hb
    rw [getD_nat ha, getD_nat hb, e] at this
    exact this rfl
  have := hnd.length_le_of_subset (l₂ := List.range p.length) (fun x hx => by
    obtain ⟨a, ha, rfl⟩ := List.getElem_of_mem hx
    have := (h.node a ha).1
    rw [getD_nat ha] at this
    exact List.mem_range.2 this)
  rwa [List.length_range] at this
/-- Each reached node is the same as the node of its kind in the joined picture. -/
theorem Fit.same {p : List (List Int)} {i : Nat} {l : List Nat} (h : Fit p i l) {u a : Nat} (hu : u < p.length) (hr : Rea p i u) (ha : a < l.length) (e : kind p u = kind p (l.getD a 0)) : Same p u (joinM p l) a := by
  refine ⟨fun x b => x < p.length ∧ Rea p i x ∧ b < l.length ∧ kind p x = kind p (l.getD b 0), ?_, hu, hr, ha, e⟩
  rintro x b ⟨hx, hrx, hb, exb⟩
  obtain ⟨hbp, hbr⟩ := h.node b hb
  refine ⟨hx, by rw [joinM_len]; exact hb, fun k hk hxk => ?_, fun c hc hbc => ?_⟩
  · have hrk := hrx.step hx hxk
    obtain ⟨c, hc, ec⟩ := h.all k hk hrk
    refine ⟨c, by rw [joinM_len]; exact hc, ?_, hk, hrk, hc, ec.symm⟩
    rw [joinM_arr hb hc, ← arrK_kind hx hbp exb (rfl : kind p (l.getD c 0) = _)]
    exact arrK_iff.2 ⟨k, hk, hxk, ec.symm⟩
  · rw [joinM_len] at hc
    rw [joinM_arr hb hc, ← arrK_kind hx hbp exb (rfl : kind p (l.getD c 0) = _)] at hbc
    obtain ⟨k, hk, hxk, ek⟩ := arrK_iff.1 hbc
    exact ⟨k, hk, hxk, hk, hrx.step hx hxk, hc, ek⟩
/-- No two nodes of a picture draw the same set. -/
def Red (p : List (List Int)) : Prop := ∀ a b, a < p.length → b < p.length → Same p a p b → a = b
/-- All nodes are reached from the first one. -/
def Acc (p : List (List Int)) : Prop := ∀ a, a < p.length → Rea p 0 a
theorem Fit.red {p : List (List Int)} {i : Nat} {l : List Nat} (h : Fit p i l) : Red (joinM p l) := by
  intro a b ha hb hs
  rw [joinM_len] at ha hb
  obtain ⟨a1, a2⟩ := h.node a ha
  obtain ⟨b1, b2⟩ := h.node b hb
  have h1 := h.same a1 a2 ha rfl
  have h2 := h.same b1 b2 hb rfl
  have e := (kind_iff a1 b1).2 ((h1.trans hs).trans h2.symm)
  rcases Nat.lt_trichotomy a b with hlt | he | hgt
  · exact absurd e (h.apart a b hlt hb)
  · exact he
  · exact absurd e.symm (h.apart b a hgt ha)
theorem Fit.acc {p : List (List Int)} {i : Nat} {l : List Nat} (h : Fit p i l) (hi : i < p.length) : Acc (joinM p l) := by
  have key : ∀ v, Rea p i v → v < p.length → ∃ a, a < l.length ∧ kind p (l.getD a 0) = kind p v ∧ Rea (joinM p l) 0 a := by
    intro v hv
    have : (v < p.length → ∃ a, a < l.length ∧ kind p (l.getD a 0) = kind p v ∧ Rea (joinM p l) 0 a) ∧ Rea p i v := by
      refine Rea.ind (Q := fun v => (v < p.length → ∃ a, a < l.length ∧ kind p (l.getD a 0) = kind p v ∧ Rea (joinM p l) 0 a) ∧ Rea p i v) ⟨fun _ => ⟨0, h.pos, by rw [h.head], Rea.refl _ _⟩, Rea.refl _ _⟩ (fun k j hQ hk hkj => ⟨fun hj => ?_, hQ.2.step hk hkj⟩) v hv
      obtain ⟨a, ha, ea, ra⟩ := hQ.1 hk
      have hrj := hQ.2.step hk hkj
      obtain ⟨b, hb, eb⟩ := h.all j hj hrj
      refine ⟨b, hb, eb, ra.step (by rw [joinM_len]; exact ha) ?_⟩
      rw [joinM_arr ha hb, arrK_kind (h.node a ha).1 hk ea (rfl : kind p (l.getD b 0) = _)]
      exact arrK_iff.2 ⟨j, hj, hkj, eb.symm⟩
    exact this.1
  intro a ha
  rw [joinM_len] at ha
  obtain ⟨a1, a2⟩ := h.node a ha
  obtain ⟨b, hb, eb, rb⟩ := key _ a2 a1
  have : b = a := by
    rcases Nat.lt_trichotomy a b with hlt | he | hgt
    · exact absurd eb.symm (h.apart a b hlt hb)
    · exact he.symm
    · exact absurd eb (h.apart b a hgt ha)
  rw [← this]; exact rb
theorem Fit.first {p : List (List Int)} {i : Nat} {l : List Nat} (h : Fit p i l) (hi : i < p.length) : Same p i (joinM p l) 0 := h.same hi (Rea.refl p i) h.pos h.head.symm
theorem joinM_sq (p : List (List Int)) (l : List Nat) : Sq (joinM p l) := mat_sq _ _
/-! ### reduced pictures of one set are reorderings of one another -/

/-- The nodes of q as nodes of p. -/
structure Iso (p q : List (List Int)) (f : Nat → Nat) : Prop where
  len : p.length = q.length
  zero : f 0 = 0
  lt : ∀ b, b < q.length → f b < p.length
  inj : ∀ b c, b < q.length → c < q.length → f b = f c → b = c
  arrow : ∀ b c, b < q.length → c < q.length → arr q b c = arr p (f b) (f c)
theorem reach_pair {p q : List (List Int)} (hs : Same p 0 q 0) (ha : Acc q) : ∀ b, b < q.length → ∃ a, a < p.length ∧ Same p a q b := by
  intro b hb
  have : ∀ b, Rea q 0 b → b < q.length → ∃ a, a < p.length ∧ Same p a q b := by
    refine Rea.ind (Q := fun b => b < q.length → ∃ a, a < p.length ∧ Same p a q b) (fun _ => ⟨0, hs.lt.1, hs⟩) (fun k j hQ hk hkj hj => ?_)
    obtain ⟨a, ha, hak⟩ := hQ hk
    obtain ⟨c, hc, hac, hjc⟩ := hak.symm.to hj hkj
    exact ⟨c, hc, hjc.symm⟩
  exact this b (ha b hb) hb
theorem iso_of_same {p q : List (List Int)} (hp : Red p) (hq : Red q) (ap : Acc p) (aq : Acc q) (hs : Same p 0 q 0) : ∃ f, Iso p q f := by
  have hex := reach_pair hs aq
  have hex2 := reach_pair hs.symm ap
  have hch : ∃ f : Nat → Nat, ∀ b, b < q.length → f b < p.length ∧ Same p (f b) q b := by
    refine ⟨fun b => if h : b < q.length then (hex b h).choose else 0, fun b hb => ?_⟩
    simp only [hb, dite_true]
    exact (hex b hb).choose_spec
  obtain ⟨f, hf⟩ := hch
  have hinj : ∀ b c, b < q.length → c < q.length → f b = f c → b = c := fun b c hb hc e => by
    have h1 := (hf b hb).2
    have h2 := (hf c hc).2
    rw [e] at h1
    exact hq b c hb hc (h1.symm.trans h2)
  have hle : q.length ≤ p.length := by
    have hnd : ((List.range q.length).map f).Nodup := by
      rw [List.nodup_iff_pairwise_ne, List.pairwise_iff_getElem]
      intro a b ha hb hab e
      simp at ha hb e
      have := hinj a b ha hb e
      omega
    have := hnd.length_le_of_subset (l₂ := List.range p.length) (fun x hx => by
      obtain ⟨b, hb, rfl⟩ := List.mem_map.1 hx
      exact List.mem_range.2 (hf b (List.mem_range.1 hb)).1)
    simpa using this
  have hge : p.length ≤ q.length := by
    have hch : ∃ g : Nat → Nat, ∀ a, a < p.length → g a < q.length ∧ Same q (g a) p a := by
      refine ⟨fun b => if h : b < p.length then (hex2 b h).choose else 0, fun b hb => ?_⟩
      simp only [hb, dite_true]
      exact (hex2 b hb).choose_spec
    obtain ⟨g, hg⟩ := hch
    have hnd : ((List.range p.length).map g).Nodup := by
      rw [List.nodup_iff_pairwise_ne, List.pairwise_iff_getElem]
      intro a b ha hb hab e
      simp at ha hb e
      have h1 := (hg a ha).2
      have h2 := (hg b hb).2
      rw [e] at h1
      have := hp a b ha hb (h1.symm.trans h2)
      omega
    have := hnd.length_le_of_subset (l₂ := List.range q.length) (fun x hx => by
      obtain ⟨b, hb, rfl⟩ := List.mem_map.1 hx
      exact List.mem_range.2 (hg b (List.mem_range.1 hb)).1)
    simpa using this
  have h0 := hs.lt
  refine ⟨f, by omega, ?_, fun b hb => (hf b hb).1, hinj, fun b c hb hc => ?_⟩
  · exact hp _ _ (hf 0 h0.2).1 h0.1 ((hf 0 h0.2).2.trans hs.symm)
  · obtain ⟨b1, b2⟩ := hf b hb
    obtain ⟨c1, c2⟩ := hf c hc
    rw [Bool.eq_iff_iff]
    constructor
    · intro h
      obtain ⟨d, hd, hd2, hd3⟩ := b2.symm.to hc h
      have : d = f c := hp d (f c) hd c1 (hd3.symm.trans c2.symm)
      rw [← this]; exact hd2
    · intro h
      obtain ⟨d, hd, hd2, hd3⟩ := b2.to c1 h
      have : d = c := hq d c hd hc (hd3.symm.trans c2)
      rw [← this]; exact hd2
theorem Iso.same {p q : List (List Int)} {f : Nat → Nat} (h : Iso p q f) (hsur : ∀ a, a < p.length → ∃ b, b < q.length ∧ f b = a) {b : Nat} (hb : b < q.length) : Same p (f b) q b := by
  refine ⟨fun x y => y < q.length ∧ x = f y, ?_, hb, rfl⟩
  rintro x y ⟨hy, rfl⟩
  refine ⟨h.lt y hy, hy, fun k hk hxk => ?_, fun c hc hyc => ?_⟩
  · obtain ⟨c, hc, rfl⟩ := hsur k hk
    exact ⟨c, hc, by rw [h.arrow y c hy hc]; exact hxk, hc, rfl⟩
  · exact ⟨f c, h.lt c hc, by rw [← h.arrow y c hy hc]; exact hyc, hc, rfl⟩
end Go.Hyp
