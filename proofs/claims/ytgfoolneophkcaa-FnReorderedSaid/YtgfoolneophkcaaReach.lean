/- The nodes that are reached: impl.reachedFrom. -/
import Derived.Test.YtgfoolneophkcaaArrow
import Derived.Test.YtgfoolneophkcaaSort
import Derived.Test.YtgfoolneophkcaaHeld
namespace Go.Hyp
open Go.RowKit Go.Deep
/-- j is reached from i by at most r arrows. -/
def reaN (p : List (List Int)) (i : Nat) : Nat → Nat → Bool
  | 0, j => i == j
  | r + 1, j => reaN p i r j || (List.range p.length).any fun k => reaN p i r k && arr p k j
/-- j is reached from i. -/
def Rea (p : List (List Int)) (i j : Nat) : Prop := ∃ r, reaN p i r j = true
theorem Rea.refl (p : List (List Int)) (i : Nat) : Rea p i i := ⟨0, by simp [reaN]⟩
theorem Rea.step {p : List (List Int)} {i k j : Nat} (h : Rea p i k) (hk : k < p.length) (ha : arr p k j = true) : Rea p i j := by
  obtain ⟨r, hr⟩ := h
  refine ⟨r + 1, ?_⟩
  unfold reaN
  rw [Bool.or_eq_true]
  right
  rw [List.any_eq_true]
  exact ⟨k, List.mem_range.2 hk, by rw [hr, ha]; rfl⟩
theorem Rea.ind {p : List (List Int)} {i : Nat} {Q : Nat → Prop} (h0 : Q i) (hs : ∀ k j, Q k → k < p.length → arr p k j = true → Q j) : ∀ j, Rea p i j → Q j := by
  have key : ∀ r j, reaN p i r j = true → Q j := by
    intro r
    induction r with
    | zero => intro j h; simp [reaN] at h; subst h; exact h0
    | succ r ih =>
      intro j h
      unfold reaN at h
      rw [Bool.or_eq_true] at h
      rcases h with h | h
      · exact ih j h
      · rw [List.any_eq_true] at h
        obtain ⟨k, hk, h⟩ := h
        rw [Bool.and_eq_true] at h
        exact hs k j (ih k h.1) (List.mem_range.1 hk) h.2
  exact fun j ⟨r, h⟩ => key r j h
/-- The list of all nodes that are reached, in order. -/
def IsReach (p : List (List Int)) (i : Nat) (L : List Int) : Prop := L.Pairwise (· < ·) ∧ ∀ x, x ∈ L ↔ ∃ k : Nat, x = k ∧ k < p.length ∧ Rea p i k
theorem sorted_unique : ∀ {L M : List Int}, L.Pairwise (· < ·) → M.Pairwise (· < ·) → (∀ x, x ∈ L ↔ x ∈ M) → L = M := by
  intro L
  induction L with
  | nil =>
    intro M _ _ h
    cases M with
    | nil => rfl
    | cons y M => exact absurd ((h y).2 (by simp)) (by simp)
  | cons x L ih =>
    intro M hL hM h
    cases M with
    | nil => exact absurd ((h x).1 (by simp)) (by simp)
    | cons y M =>
      rw [List.pairwise_cons] at hL hM
      have exy : x = y := by
        rcases Int.lt_trichotomy x y with hlt | he | hgt
        · have := (h x).1 (by simp)
          rcases List.mem_cons.1 this with e | e
          · exact e
          · have := hM.1 x e; omega
        · exact he
        · have := (h y).2 (by simp)
          rcases List.mem_cons.1 this with e | e
          · exact e.symm
          · have := hL.1 y e; omega
      subst exy
      have : L = M := ih hL.2 hM.2 fun z => by
        constructor
        · intro hz
          rcases List.mem_cons.1 ((h z).1 (by simp [hz])) with e | e
          · have := hL.1 z hz; omega
          · exact e
        · intro hz
          rcases List.mem_cons.1 ((h z).2 (by simp [hz])) with e | e
          · have := hM.1 z hz; omega
          · exact e
      rw [this]
theorem IsReach.unique {p : List (List Int)} {i : Nat} {L M : List Int} (h : IsReach p i L) (k : IsReach p i M) : L = M :=
  sorted_unique h.1 k.1 fun x => (h.2 x).trans (k.2 x).symm
theorem srt_mem {l : List Int} {x : Int} : x ∈ srt l ↔ x ∈ l := by unfold srt; exact List.mem_mergeSort
theorem srt_len (l : List Int) : (srt l).length = l.length := by unfold srt; exact (List.mergeSort_perm l _).length_eq
theorem srt_le (l : List Int) : (srt l).Pairwise (· ≤ ·) := by
  have := List.pairwise_mergeSort (le := fun x y : Int => decide (x ≤ y)) (fun a b c h1 h2 => by simp at h1 h2 ⊢; omega) (fun a b => by simp; omega) l
  unfold srt
  exact this.imp (by intro a b h; simpa using h)
theorem lt_of_le_nodup : ∀ {l : List Int}, l.Pairwise (· ≤ ·) → l.Nodup → l.Pairwise (· < ·) := by
  intro l
  induction l with
  | nil => intro _ _; exact List.Pairwise.nil
  | cons x l ih =>
    intro h1 h2
    rw [List.pairwise_cons] at h1 ⊢
    rw [List.nodup_cons] at h2
    refine ⟨fun y hy => ?_, ih h1.2 h2.2⟩
    have := h1.1 y hy
    have hne : x ≠ y := fun e => h2.1 (e ▸ hy)
    omega
theorem srt_lt {l : List Int} (h : l.Nodup) : (srt l).Pairwise (· < ·) := lt_of_le_nodup (srt_le l) (((List.mergeSort_perm l _).nodup_iff).2 h)
/-- The state of the search behind k nodes. -/
structure Srch (p : List (List Int)) (i k : Nat) (L : List Int) : Prop where
  nodup : L.Nodup
  nodes : ∀ x ∈ L, ∃ a : Nat, x = a ∧ a < p.length ∧ Rea p i a
  first : (i : Int) ∈ L
  shut : ∀ t a : Nat, t < k → L[t]? = some (a : Int) → ∀ b, b < p.length → arr p a b = true → (b : Int) ∈ L
theorem Srch.start {p : List (List Int)} {i : Nat} (h : i < p.length) : Srch p i 0 [(i : Int)] :=
  ⟨by simp, fun x hx => by simp at hx; exact ⟨i, hx, h, Rea.refl p i⟩, by simp, fun t a ht => by omega⟩
theorem Srch.len {p : List (List Int)} {i k : Nat} {L : List Int} (h : Srch p i k L) : L.length ≤ p.length := by
  have := h.nodup.length_le_of_subset (l₂ := (List.range p.length).map Int.ofNat) (fun x hx => by
    obtain ⟨a, rfl, ha, _⟩ := h.nodes x hx
    exact List.mem_map.2 ⟨a, List.mem_range.2 ha, rfl⟩)
  simpa using this
theorem Srch.add {p : List (List Int)} {i k a b : Nat} {L : List Int} (h : Srch p i k L) (hk : L[k]? = some (a : Int)) (hb : b < p.length) (hab : arr p a b = true) (hn : (b : Int) ∉ L) : Srch p i k (L ++ [(b : Int)]) := by
  have hka : (a : Int) ∈ L := List.mem_of_getElem? hk
  have hkl : k < L.length := by
    have := List.getElem?_eq_some_iff.1 hk
    exact this.1
  obtain ⟨a', e, ha, hr⟩ := h.nodes _ hka
  have e : a = a' := by omega
  subst e
  refine ⟨List.nodup_append.2 ⟨h.nodup, by simp, fun x hx y hy => by simp at hy; subst hy; exact fun e => hn (e ▸ hx)⟩, fun x hx => ?_, by simp [h.first], fun t c ht htc d hd hcd => ?_⟩
  · rcases List.mem_append.1 hx with hx | hx
    · exact h.nodes x hx
    · simp at hx; exact ⟨b, hx, hb, hr.step ha hab⟩
  · rw [List.getElem?_append_left (by omega)] at htc
    have := h.shut t c ht htc d hd hcd
    simp [this]
theorem Srch.next {p : List (List Int)} {i k a : Nat} {L : List Int} (h : Srch p i k L) (hk : L[k]? = some (a : Int)) (hall : ∀ b, b < p.length → arr p a b = true → (b : Int) ∈ L) : Srch p i (k + 1) L :=
  ⟨h.nodup, h.nodes, h.first, fun t c ht htc d hd hcd => by
    rcases Nat.lt_or_ge t k with h1 | h1
    · exact h.shut t c h1 htc d hd hcd
    · have e : t = k := by omega
      subst e
      rw [hk] at htc
      have e0 : (a : Int) = c := by simpa using htc
      have e : a = c := by omega
      subst e
      exact hall d hd hcd⟩
theorem Srch.done {p : List (List Int)} {i : Nat} {L : List Int} (h : Srch p i L.length L) (hs : Sq p) : IsReach p i (srt L) := by
  refine ⟨srt_lt h.nodup, fun x => ?_⟩
  rw [srt_mem]
  constructor
  · exact h.nodes x
  · rintro ⟨k, rfl, hk, hr⟩
    have key : ∀ j, Rea p i j → j < p.length → (j : Int) ∈ L := by
      refine Rea.ind (Q := fun j => j < p.length → (j : Int) ∈ L) (fun _ => h.first) (fun k j hQ hk ha hj => ?_)
      obtain ⟨t, ht⟩ := List.mem_iff_getElem?.1 (hQ hk)
      have htl := (List.getElem?_eq_some_iff.1 ht).1
      exact h.shut t k htl ht j hj ha
    exact key k hr hk
/-- A new row of one. -/
theorem OwI_one (w : World) (E : Nat) (x : Int) : OwI (w.alloc (.cells #[.int .i64 x] E)) E w.heap.size (w.heap.size + 1) (some ⟨w.heap.size, 0, none⟩) 1 [x] := by
  refine .inr ⟨_, fun i => .int .i64 ([x].getD i 0), rfl, Nat.le_refl _, Nat.lt_succ_self _, World.rowIs_alloc w _ _ _ (fun i hi => ?_), Nat.le_refl _, by unfold maxLen; omega, fun i hi => rfl⟩
  match i, hi with
  | 0, _ => rfl
/-- A call that hands back the nodes that are reached, in new memory. -/
def RetReach (E : Nat) (p : List (List Int)) (i : Nat) (w : World) (e : Ending) (w' : World) : Prop :=
  ∃ L a c, e = .returned (.slice a (L : List Int).length c) ∧ IsReach p i L ∧ L.length ≤ p.length ∧ OwI w' E w.heap.size w'.heap.size a c L ∧ Below w.heap.size w w'
end Go.Hyp
namespace Go.Proofs.Ytgfoolneophkcaa
open Go.RowKit Go.Hyp Go.Deep

end Go.Proofs.Ytgfoolneophkcaa
