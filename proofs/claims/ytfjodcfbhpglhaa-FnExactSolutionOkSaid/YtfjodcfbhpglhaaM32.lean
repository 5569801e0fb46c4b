/- impl.leastOf, LeastOf, isLeast, LeastOk, walked. impl.withMembers and what calls it, walked. spec.l6Put, walked. -/
import Derived.Laws.EntriesVeiled
import Derived.Test.YtfjodcfbhpglhaaM30
import Derived.Test.YtfjodcfbhpglhaaM31
import Derived.Test.YtfjodcfbhpglhaaM21
import Derived.Test.YtfjodcfbhpglhaaM18
import Derived.Test.YtfjodcfbhpglhaaM20
namespace Go.Hyp
/-- What leastOf answers: the least picture, if it has not too many nodes. -/
def leastQ (p : List (List Int)) (i : Nat) : Bool := decide ((joinedL p i).length ≤ 5)
def leastN (p : List (List Int)) (i : Nat) : List (List Int) := if leastQ p i = true then leastC p i else []
theorem leastN_yes {p : List (List Int)} {i : Nat} (h : leastQ p i = true) : leastN p i = leastC p i := by unfold leastN; rw [h]; rfl
theorem leastN_no {p : List (List Int)} {i : Nat} (h : leastQ p i = false) : leastN p i = [] := by unfold leastN; rw [h]; rfl
theorem putR_N (P : List (List Int)) (m : Nat → Bool) : putR P m = leastN (putL P m) 0 := rfl
theorem putB_Q (P : List (List Int)) (m : Nat → Bool) : putB P m = leastQ (putL P m) 0 := rfl
theorem place_is {p : List (List Int)} {i : Nat} (hi : i < p.length) (h5 : (joinedL p i).length ≤ 5) : (comp (joinedL p i).length ((joinedL p i).length - 1) [0]).foldl (better (joinM p (joinedL p i))) (joinM p (joinedL p i)) = leastC p i := by
  have h1 := joined_pos hi
  have h := leastC_eq hi (by omega) (joinedL_fit hi) (placeL_least (joinM_sq p (joinedL p i)) h1)
  unfold placeL at h
  rwa [joinM_len] at h
end Go.Hyp
namespace Go.Proofs.Ytfjodcfbhpglhaa
open Go.RowKit Go.Hyp Go.Deep

end Go.Proofs.Ytfjodcfbhpglhaa
namespace Go.Hyp
open Go.RowKit Go.Deep
theorem bes_one (P : List (List Int)) : besL (mat 1 1 fun _ _ => false) P = mat (P.length + 1) (P.length + 1) (putF P fun _ => false) := by
  unfold besL
  rw [mat_len, Nat.add_comm 1 P.length]
  refine mat_congr fun i j hi hj => ?_
  unfold besF putF
  rw [mat_len]
  by_cases h0 : i = 0
  · subst h0
    rw [if_pos (by omega), if_pos rfl, Bool.and_false]
    by_cases hj0 : j < 1
    · rw [mat_arr _ _ _ _ _ (by omega) hj0, Bool.and_false]
    · rw [decide_eq_false hj0]; rfl
  · rw [if_neg (by omega), if_neg h0]
/-- The members that a list names. -/
def inF (L : List Int) (v : Nat) : Bool := decide ((v : Int) ∈ L)
theorem inF_nil : inF [] = fun _ => false := by funext v; simp [inF]
theorem putF_step {P : List (List Int)} {L : List Int} {k v : Nat} (hk : k < L.length) (hv : L[k] = (v : Int)) (x y : Nat) : putF P (inF (L.take (k + 1))) x y = if x = 0 ∧ y = v + 1 then true else putF P (inF (L.take k)) x y := by
  unfold putF
  by_cases hx : x = 0
  · rw [if_pos hx, if_pos hx]
    by_cases hy : y = v + 1
    · rw [if_pos ⟨hx, hy⟩, decide_eq_true (by omega), Bool.true_and]
      unfold inF
      rw [List.take_succ_eq_append_getElem hk, hv]
      exact decide_eq_true (by rw [show y - 1 = v by omega]; simp)
    · rw [if_neg (fun h => hy h.2)]
      by_cases h1 : 1 ≤ y
      · rw [decide_eq_true h1, Bool.true_and, Bool.true_and]
        unfold inF
        rw [List.take_succ_eq_append_getElem hk, hv]
        rw [Bool.eq_iff_iff, decide_eq_true_eq, decide_eq_true_eq, List.mem_append]
        constructor
        · rintro (h | h)
          · exact h
          · simp at h; omega
        · exact .inl
      · rw [decide_eq_false h1]; rfl
  · rw [if_neg hx, if_neg hx, if_neg (fun h => hx h.1)]
/-- What PairOf answers. -/
def pairQ (p : List (List Int)) (n : Int) (q : List (List Int)) (m : Int) : Bool := nodeB p n && nodeB q m && pairB p n.toNat q m.toNat
def pairS (p : List (List Int)) (n : Int) (q : List (List Int)) (m : Int) : List (List Int) := if (nodeB p n && nodeB q m) = true then pairR p n.toNat q m.toNat else []
theorem pairs_no {p q : List (List Int)} {n m : Int} (h : (nodeB p n && nodeB q m) = false) : pairQ p n q m = false ∧ pairS p n q m = [] := by
  unfold pairQ pairS; rw [h]; exact ⟨rfl, rfl⟩
theorem pairs_yes {p q : List (List Int)} {i j : Nat} (h : nodeB p i = true) (k : nodeB q j = true) : pairQ p i q j = pairB p i q j ∧ pairS p i q j = pairR p i q j := by
  unfold pairQ pairS; rw [h, k, Int.toNat_natCast, Int.toNat_natCast]; exact ⟨rfl, rfl⟩
theorem pair_in {p q : List (List Int)} {i j : Nat} : putB (besL p q) (inF [(i : Int), ((p.length : Int) + (j : Int))]) = pairB p i q j ∧ putR (besL p q) (inF [(i : Int), ((p.length : Int) + (j : Int))]) = pairR p i q j :=
  putR_alike fun v _ => by
    unfold inF pairF
    rw [Bool.eq_iff_iff]
    simp
    omega
theorem pairOf_small (p : List (List Int)) (n : Int) (q : List (List Int)) (m : Int) : (pairS p n q m).length ≤ 1048576 ∧ lens (pairS p n q m) ≤ 1048576 := by
  unfold pairS
  split
  · exact putR_small _ _
  · exact ⟨by simp, by show 0 ≤ _; omega⟩
end Go.Hyp
namespace Go.Proofs.Ytfjodcfbhpglhaa
open Go.RowKit Go.Hyp Go.Deep

end Go.Proofs.Ytfjodcfbhpglhaa
namespace Go.Hyp
open Go.RowKit Go.Deep
theorem rowOf_set {N i : Nat} {f g : Nat → Bool} (b : Bool) (hg : g i = b) (ho : ∀ y, y ≠ i → g y = f y) : (rowOf N f).set i (if b then 1 else 0) = rowOf N g := by
  apply List.ext_getElem (by simp [rowOf_len])
  intro k h1 h2
  rw [List.getElem_set]
  rw [rowOf_len] at h2
  by_cases e : i = k
  · subst e; rw [if_pos rfl, rowOf_get, hg]
  · rw [if_neg e, rowOf_get, rowOf_get, ho k (fun h => e h.symm)]
/-- One row in new memory is a slice of rows. -/
theorem rows_one (w : World) (E R n : Nat) (hn : n ≤ maxLen) : OwII ((w.alloc (.cells (madeCells #[.int .i64 0] n) E)).alloc (.cells #[.slice (some ⟨w.heap.size, 0, none⟩) n n] R)) E R w.heap.size (w.heap.size + 2) (some ⟨w.heap.size + 1, 0, none⟩) 1 (mat 1 n fun _ _ => false) := by
  have hr := World.rowIs_alloc (w.alloc (.cells (madeCells #[.int .i64 0] n) E)) #[.slice (some ⟨w.heap.size, 0, none⟩) n n] R (fun _ => .slice (some ⟨w.heap.size, 0, none⟩) n n) (fun i hi => by
    have : i = 0 := by simp at hi; omega
    subst this; rfl)
  have hs : (w.alloc (.cells (madeCells #[.int .i64 0] n) E)).heap.size = w.heap.size + 1 := by simp
  rw [hs] at hr
  have e0 : (mat 1 n fun _ _ => false).getD 0 [] = rowOf n fun _ => false := mat_get? _ _ _ _ (by omega)
  refine ⟨fun _ => some ⟨w.heap.size, 0, none⟩, fun _ => n, .inr ⟨w.heap.size + 1, _, rfl, by omega, by omega, hr, by rw [mat_len]; simp, by unfold maxLen; simp, fun i hi => ?_⟩, fun i hi => ?_, fun i j hij hj => ?_, fun i hi x y hx hy => ?_⟩
  · rw [mat_len] at hi
    have : i = 0 := by omega
    subst this
    show Value.slice _ n n = Value.slice _ ((mat 1 n fun _ _ => false).getD 0 []).length n
    rw [e0, rowOf_len]
  · rw [mat_len] at hi
    have : i = 0 := by omega
    subst this
    rw [e0]
    exact ((OwI_zeros w E n hn).agr ((Agr.refl _ _ _).alloc (by simp) _)).mono (Nat.le_refl _) (by omega)
  · rw [mat_len] at hj; omega
  · injection hx with hx; injection hy with hy; subst hx; subst hy; simp
/-- The members that two lists name, the second one's behind n1 nodes. -/
def l6F (n1 : Nat) (A B : List Int) (u : Nat) : Bool := inF A u || (decide (n1 ≤ u) && inF B (u - n1))
/-- The first row. -/
def r0F (n1 : Nat) (A B : List Int) (y : Nat) : Bool := decide (1 ≤ y) && l6F n1 A B (y - 1)
theorem inF_succ {L : List Int} {k v : Nat} (hk : k < L.length) (hv : L[k] = (v : Int)) (u : Nat) : inF (L.take (k + 1)) u = (inF (L.take k) u || decide (u = v)) := by
  unfold inF
  rw [List.take_succ_eq_append_getElem hk, hv, Bool.eq_iff_iff]
  simp only [Bool.or_eq_true, decide_eq_true_eq, List.mem_append, List.mem_singleton]
  constructor
  · rintro (h | h)
    · exact .inl h
    · exact .inr (by omega)
  · rintro (h | h)
    · exact .inl h
    · exact .inr (by omega)
theorem r0F_left {n1 : Nat} {A B : List Int} {k v : Nat} (hk : k < A.length) (hv : A[k] = (v : Int)) (x y : Nat) (hx : x < 1) : r0F n1 (A.take (k + 1)) B y = if x = 0 ∧ y = 1 + v then true else r0F n1 (A.take k) B y := by
  have hx0 : x = 0 := by omega
  unfold r0F l6F
  rw [inF_succ hk hv]
  by_cases hy : y = 1 + v
  · rw [if_pos ⟨hx0, hy⟩, decide_eq_true (p := 1 ≤ y) (by omega), decide_eq_true (p := y - 1 = v) (by omega)]; simp
  · rw [if_neg (fun h => hy h.2)]
    by_cases h1 : 1 ≤ y
    · rw [decide_eq_false (p := y - 1 = v) (by omega), Bool.or_false]
    · rw [decide_eq_false h1]; rfl
theorem r0F_right {n1 : Nat} {A B : List Int} {k v : Nat} (hk : k < B.length) (hv : B[k] = (v : Int)) (x y : Nat) (hx : x < 1) : r0F n1 A (B.take (k + 1)) y = if x = 0 ∧ y = 1 + n1 + v then true else r0F n1 A (B.take k) y := by
  have hx0 : x = 0 := by omega
  unfold r0F l6F
  rw [inF_succ hk hv]
  by_cases hy : y = 1 + n1 + v
  · rw [if_pos ⟨hx0, hy⟩, decide_eq_true (p := 1 ≤ y) (by omega), decide_eq_true (p := n1 ≤ y - 1) (by omega), decide_eq_true (p := y - 1 - n1 = v) (by omega)]; simp
  · rw [if_neg (fun h => hy h.2)]
    by_cases h1 : 1 ≤ y
    · by_cases h2 : n1 ≤ y - 1
      · rw [decide_eq_false (p := y - 1 - n1 = v) (by omega), Bool.or_false]
      · rw [decide_eq_false h2]; simp
    · rw [decide_eq_false h1]; rfl
theorem r0F_nil (n1 y : Nat) : r0F n1 [] [] y = false := by unfold r0F l6F; rw [inF_nil]; simp
/-- The row of node k of the first picture (or of the second one, behind n1 nodes), its first j places laid. -/
def rkF (p : List (List Int)) (k n1 j y : Nat) : Bool := decide (1 + n1 ≤ y) && (decide (y - 1 - n1 < j) && arr p k (y - 1 - n1))
theorem rkF_zero (p : List (List Int)) (k n1 N : Nat) : rowOf N (rkF p k n1 0) = rowOf N fun _ => false := rowOf_congr fun y _ => by unfold rkF; rw [decide_eq_false (p := y - 1 - n1 < 0) (by omega)]; simp
theorem rkF_set {p : List (List Int)} {k n1 j N i : Nat} (hi : i = 1 + n1 + j) : (rowOf N (rkF p k n1 j)).set i (if arr p k j then 1 else 0) = rowOf N (rkF p k n1 (j + 1)) := by
  refine rowOf_set _ ?_ fun y hy => ?_
  · unfold rkF
    rw [decide_eq_true (by omega), decide_eq_true (p := i - 1 - n1 < j + 1) (by omega), show i - 1 - n1 = j by omega]; rfl
  · unfold rkF
    by_cases h1 : 1 + n1 ≤ y
    · have : decide (y - 1 - n1 < j + 1) = decide (y - 1 - n1 < j) := by
        by_cases h2 : y - 1 - n1 < j
        · rw [decide_eq_true h2, decide_eq_true (by omega)]
        · rw [decide_eq_false h2, decide_eq_false (by omega)]
      rw [this]
    · rw [decide_eq_false h1]; rfl
theorem rkF_left {p q : List (List Int)} {m : Nat → Bool} {k : Nat} (hk : k < p.length) : rowOf (p.length + q.length + 1) (rkF p k 0 p.length) = rowOf (p.length + q.length + 1) (putF (besL p q) m (k + 1)) := rowOf_congr fun y hy => by
  unfold rkF putF
  rw [if_neg (by omega), Nat.add_zero, Nat.sub_zero, show k + 1 - 1 = k by omega]
  by_cases h1 : 1 ≤ y
  · rw [besL_left hk (by omega)]
  · rw [decide_eq_false h1]; rfl
theorem rkF_right {p q : List (List Int)} {m : Nat → Bool} {k : Nat} (hk : k < q.length) : rowOf (p.length + q.length + 1) (rkF q k p.length q.length) = rowOf (p.length + q.length + 1) (putF (besL p q) m (p.length + k + 1)) := rowOf_congr fun y hy => by
  unfold rkF putF
  rw [if_neg (by omega), show p.length + k + 1 - 1 = p.length + k by omega]
  by_cases h1 : 1 ≤ y
  · rw [decide_eq_true h1, besL_right hk (by omega)]
    by_cases h2 : 1 + p.length ≤ y
    · rw [decide_eq_true h2, decide_eq_true (p := p.length ≤ y - 1) (by omega), decide_eq_true (p := y - 1 - p.length < q.length) (by omega)]
    · rw [decide_eq_false h2, decide_eq_false (p := p.length ≤ y - 1) (by omega)]; rfl
  · rw [decide_eq_false h1, decide_eq_false (p := 1 + p.length ≤ y) (by omega)]; rfl
end Go.Hyp
namespace Go.Proofs.Ytfjodcfbhpglhaa
open Go.RowKit Go.Hyp Go.Deep

end Go.Proofs.Ytfjodcfbhpglhaa
