/- slices.Sort over owned ints, by the library's contract. -/
import Derived.Shelf.Sort.Plain
import Derived.Test.YtfjodcfbhpglhaaM3
namespace Go.Hyp
open Go.RowKit Go.Sort
/-- A row's values replaced: an owned slice of ints holds the new ones; all else as it was, but for new blocks. -/
theorem OwI.sorted {w : World} {E B C g cap n : Nat} {l m : List Int} {os : Array Obj} (h : OwI w E B C (some ⟨g, 0, none⟩) cap l) (hC : C ≤ w.heap.size) (hm : m.length = l.length) :
    OwI (grow (putRow (Value.int .i64) (Sort.ahead w n) g 0 m.toArray) os) E B C (some ⟨g, 0, none⟩) cap m ∧ Chg (· = g) w (grow (putRow (Value.int .i64) (Sort.ahead w n) g 0 m.toArray) os) := by
  rcases h with ⟨h, _⟩ | ⟨g', f, e, h1, h2, hr, hl, hc, hf⟩
  · cases h
  · have e : g = g' := by injection e with e; injection e
    subst e
    have hother : ∀ k, k < w.heap.size → ¬ k = g → (grow (putRow (Value.int .i64) (Sort.ahead w n) g 0 m.toArray) os).heap[k]? = w.heap[k]? := fun k hk hne => by
      rw [heap_grow_old _ _ (by simpa using hk)]
      unfold putRow mapBlock
      simp only [heap_ahead, Array.getElem?_modify]
      rw [if_neg (fun e => hne e.symm)]
    refine ⟨?_, ⟨rfl, rfl, rfl, by simp, hother⟩⟩
    refine .inr ⟨g, fun i => if i < l.length then .int .i64 (m.getD i 0) else f i, rfl, h1, h2, ?_, by omega, hc, fun i hi => if_pos (by omega)⟩
    obtain ⟨c, hb, hs, hcc⟩ := hr
    refine ⟨putCells (Value.int .i64) 0 m.toArray c, ?_, by simp [putCells, hs], fun i hi => ?_⟩
    · rw [heap_grow_old _ _ (by simp; omega)]
      unfold putRow mapBlock
      simp only [heap_ahead, Array.getElem?_modify, if_true, hb]
      rfl
    · unfold putCells
      show _ = some (if i < l.length then _ else _)
      rw [Array.getElem?_mapIdx, hcc i hi, Option.map_some]
      by_cases hlt : i < l.length
      · rw [if_pos ⟨Nat.zero_le _, by simp; omega⟩, if_pos hlt]
        simp [List.getD, show i < m.length by omega]
      · rw [if_neg (by simp; omega), if_neg hlt]
theorem OwI.holds {w : World} {E B C g cap : Nat} {l : List Int} (h : OwI w E B C (some ⟨g, 0, none⟩) cap l) : Holds (Value.int .i64) w g 0 l.toArray := by
  rcases h with ⟨h, _⟩ | ⟨g', f, e, h1, h2, hr, hl, hc, hf⟩
  · cases h
  · have e : g = g' := by injection e with e; injection e
    subst e
    intro j hj
    have hj' : j < l.length := by simpa using hj
    refine ⟨?_, hr.frozen _⟩
    rw [Nat.zero_add, hr.cell (by omega), hf j hj']
    simp [List.getD, hj']
/-- A list of ints in order. -/
def srt (l : List Int) : List Int := l.mergeSort fun x y => decide (x ≤ y)
end Go.Hyp
namespace Go.Proofs.Ytfjodcfbhpglhaa
open Go.RowKit Go.Hyp Go.Sort Go.Shelf

end Go.Proofs.Ytfjodcfbhpglhaa
