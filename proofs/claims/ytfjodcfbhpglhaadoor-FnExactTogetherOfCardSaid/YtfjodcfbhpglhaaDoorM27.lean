/- slices.DeleteFunc over owned ints, with a predicate that may make memory. -/
import Derived.Lib.SliceRun
import Derived.Test.YtfjodcfbhpglhaaDoorM4
import Derived.Test.YtfjodcfbhpglhaaDoorM3
import Derived.Test.YtfjodcfbhpglhaaDoorM14
namespace Go.Hyp
open Go.RowKit Go.Deep
/-- The first place at which g holds, or -1. -/
def FirstAt (g : Int → Bool) (l : List Int) (n : Int) : Prop := (n = -1 ∧ l.any g = false) ∨ ∃ k : Nat, ∃ h : k < l.length, n = k ∧ g l[k] = true ∧ (l.take k).any g = false
def FoundK (g : Int → Bool) (l : List Int) (w : World) (e : Ending) (w' : World) : Prop := ∃ n : Int, e = .returned (.int .i64 n) ∧ FirstAt g l n ∧ Below w.heap.size w w'
/-- Such a function may be called while block b is rewritten. -/
def TellsB (P : Program) (f : Nat) (cap : Array Value) (g : Int → Bool) (l : List Int) (b : Nat) (W : World) : Prop :=
  ∀ x ∈ l, ∀ w, Chg (fun k => k = b) W w → Calls P f (#[.int .i64 x] ++ cap) w fun e w' => e = .returned (.bool (g x)) ∧ Below w.heap.size w w'
theorem filter_none {l : List Int} {g : Int → Bool} (h : l.any g = false) : l.filter (fun x => !g x) = l := by
  rw [List.filter_eq_self]
  intro x hx
  rw [List.any_eq_false] at h
  simpa using h x hx
theorem OwI.setZeros {E B C g cap : Nat} : ∀ (n o : Nat) (w : World) (l : List Int), OwI w E B C (some ⟨g, 0, none⟩) cap l → o + n ≤ l.length →
    ∃ m : List Int, m.length = l.length ∧ m.take o = l.take o ∧ OwI (w.setCells g o (List.replicate n (.int .i64 0))) E B C (some ⟨g, 0, none⟩) cap m ∧ Chg (fun k => k = g) w (w.setCells g o (List.replicate n (.int .i64 0))) ∧ (w.setCells g o (List.replicate n (.int .i64 0))).heap.size = w.heap.size := by
  intro n
  induction n with
  | zero => intro o w l h ho; exact ⟨l, rfl, rfl, h, Chg.refl _ _, rfl⟩
  | succ n ih =>
    intro o w l h ho
    have h1 := h.setAt o (by omega) 0
    obtain ⟨m, h2, h3, h4, h5, h6⟩ := ih (o + 1) (w.setCell ⟨g, o, none⟩ (.int .i64 0)) (l.set o 0) h1 (by rw [List.length_set]; omega)
    rw [List.replicate_succ]
    refine ⟨m, by rw [h2, List.length_set], ?_, h4, ?_, ?_⟩
    · have h7 : m.take o = (m.take (o + 1)).take o := by rw [List.take_take, Nat.min_eq_left (by omega)]
      rw [h7, h3, List.take_take, Nat.min_eq_left (by omega)]
      rw [List.take_set_of_le (by omega)]
    · exact ((Chg.refl (fun k => k = g) w).set (.inl rfl) _).trans h5
    · show ((w.setCell ⟨g, o, none⟩ (.int .i64 0)).setCells g (o + 1) (List.replicate n (.int .i64 0))).heap.size = _
      rw [h6]; simp
/-- What is kept while the list is gone through: the first i numbers are those kept of the first j, the others behind j as they were. -/
structure Kept (g : Int → Bool) (l M : List Int) (i j : Nat) : Prop where
  len : M.length = l.length
  lt : i < j
  le : j ≤ l.length
  head : M.take i = (l.take j).filter fun x => !g x
  tail : ∀ k, j ≤ k → M.getD k 0 = l.getD k 0
theorem Kept.start {g : Int → Bool} {l : List Int} {k : Nat} (h : k < l.length) (ht : g l[k] = true) (hn : (l.take k).any g = false) : Kept g l l k (k + 1) :=
  ⟨rfl, by omega, by omega, by rw [List.take_succ_eq_append_getElem h, List.filter_append, filter_none hn]; simp [ht], fun _ _ => rfl⟩
theorem Kept.skip {g : Int → Bool} {l M : List Int} {i j : Nat} (h : Kept g l M i j) (hj : j < l.length) (ht : g l[j] = true) : Kept g l M i (j + 1) :=
  ⟨h.len, by have := h.lt; omega, by omega, by rw [h.head, List.take_succ_eq_append_getElem hj, List.filter_append]; simp [ht], fun k hk => h.tail k (by omega)⟩
theorem Kept.keep {g : Int → Bool} {l M : List Int} {i j : Nat} (h : Kept g l M i j) (hj : j < l.length) (ht : g l[j] = false) : Kept g l (M.set i l[j]) (i + 1) (j + 1) := by
  have h1 := h.lt
  have h2 := h.len
  refine ⟨by rw [List.length_set]; exact h.len, by omega, by omega, ?_, fun k hk => ?_⟩
  · rw [List.take_succ_eq_append_getElem (by rw [List.length_set]; omega), List.getElem_set_self, List.take_set_of_le (Nat.le_refl _), h.head, List.take_succ_eq_append_getElem hj, List.filter_append]
    simp [ht]
  · rw [← h.tail k (by omega)]
    simp only [List.getD]
    rw [List.getElem?_set_ne (by omega)]
end Go.Hyp
namespace Go.Proofs.YtfjodcfbhpglhaaDoor
open Go.RowKit Go.Hyp Go.Deep

end Go.Proofs.YtfjodcfbhpglhaaDoor
