/- How a slice of pictures that can be read as data lies in memory. -/
import Derived.Test.YtfjodcfbhpglhaaM34
import Derived.Test.YtfjodcfbhpglhaaM24
namespace Go.Hyp
open Go.RowKit Go.Deep Go.ChangeShapes Go.WideShapes Go.ChangeAt Go.Joins

section
variable {H : Type} {enc : TypeId × Value → H} {P : Program} {w : World} {base : Nat} {spare : Nat → Bool} {held : Bool}
/-- A cell that holds a slice of pictures. -/
theorem open_rdIII {t u q e : TypeId} {fuel : Nat} {v : Value} {x : DataW H × List MemPlace} (ht : P.underlying t = some (.slice u)) (hu : P.underlying u = some (.slice q)) (hq : P.underlying q = some (.slice e)) (he : P.underlying e = some (.int .i64)) (hcu : P.cellsOf u = 1) (hcq : P.cellsOf q = 1) (hc : P.cellsOf e = 1)
    (h : DataW.trod enc P w base (fun _ => true) held fuel t [v] = some x) :
    ∃ (a : Option Addr) (cap : Nat) (p : List (List (List Int))), v = .slice a p.length cap ∧ RdIII w 0 w.heap.size a p ∧ p.length ≤ maxLen := by
  rcases open_slice1 ht hcu h with ⟨hcs, _⟩ | ⟨a, len, cap, m, n, V, D, Pl, hcs, _, hl, hm, hmm, _, hx⟩
  · simp at hcs
    exact ⟨none, 0, [], by simpa using hcs, fun i hi => by simp at hi, by simp⟩
  · simp only [List.cons.injEq, and_true] at hcs
    simp only [if_true] at hmm
    obtain ⟨f, hf⟩ := choose_lt (α := List (List Int)) (n := len) (p := fun i l => ∃ a' c', V i = .slice a' l.length c' ∧ RdII w 0 w.heap.size a' l ∧ l.length ≤ maxLen) (fun i hi => by
      obtain ⟨a', c', l, h1, h2, h3⟩ := open_rdII hu hq he hcq hc (hx i (by omega)).2
      exact ⟨l, a', c', h1, h2, h3⟩)
    have hlen : ((List.range len).map f).length = len := by simp
    refine ⟨some a, cap, (List.range len).map f, by rw [hlen]; exact hcs, fun i hi => ?_, by omega⟩
    rw [hlen] at hi
    obtain ⟨a', c', h1, h2, h3⟩ := hf i hi
    obtain ⟨b, off, spot⟩ := a
    have hspot : spot = none := by simpa [Addr.add] using World.cell?_spot (hx 0 (by omega)).1
    subst hspot
    have hcell := (hx i (by omega)).1
    rw [Addr.add_lit] at hcell
    have eg : ((List.range len).map f).getD i [] = f i := by simp [List.getD, hi]
    rw [eg]
    exact ⟨b, off, a', c', rfl, Nat.zero_le _, World.block_lt_of_cell? w _ hcell, by rw [hcell, h1], h2, h3⟩
theorem open_pics {t u q e : TypeId} {r : Reach} {b0 : Nat} {v : Value} {d : DataW H} {ps : List MemPlace} (ht : P.underlying t = some (.slice u)) (hu : P.underlying u = some (.slice q)) (hq : P.underlying q = some (.slice e)) (he : P.underlying e = some (.int .i64)) (hcu : P.cellsOf u = 1) (hcq : P.cellsOf q = 1) (hc : P.cellsOf e = 1)
    (hv : Value.okWide P w r b0 t v) (h : DataW.Trod enc P w base (fun _ => true) held t v d ps) :
    ∃ (a : Option Addr) (cap : Nat) (p : List (List (List Int))), v = .slice a p.length cap ∧ RdIII w 0 w.heap.size a p ∧ p.length ≤ maxLen := by
  obtain ⟨a0, len, cap, rfl⟩ := okWide_slice ht hv
  obtain ⟨fuel, hf⟩ := h
  exact open_rdIII ht hu hq he hcu hcq hc (by simpa [Value.cells] using hf)
end
end Go.Hyp
