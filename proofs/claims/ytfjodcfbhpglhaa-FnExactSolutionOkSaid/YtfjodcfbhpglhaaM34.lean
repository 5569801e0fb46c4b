/- How a slice of sentences that can be read as data lies in memory. -/
import Derived.Deep.SlicePairs
import Derived.Test.YtfjodcfbhpglhaaM2
import Derived.Test.YtfjodcfbhpglhaaM1
namespace Go.Hyp
open Go.RowKit Go.Deep Go.ChangeShapes Go.WideShapes Go.ChangeAt Go.Joins

section
variable {H : Type} {enc : TypeId × Value → H} {P : Program} {w : World} {base : Nat} {spare : Nat → Bool} {held : Bool}
theorem open_saids {t s q e : TypeId} {f0 f1 : Field} {r : Reach} {b0 : Nat} {v : Value} {d : DataW H} {ps : List MemPlace} (ht : P.underlying t = some (.slice s)) (hs : P.underlying s = some (.struct #[f0, f1])) (ce : P.cellsOf s = 2)
    (o0 : f0.offset = 0) (o1 : f1.offset = 1) (t0 : f0.type = q) (t1 : f1.type = e) (hq : P.underlying q = some (.slice e)) (he : P.underlying e = some (.int .i64)) (hcq : P.cellsOf q = 1) (hc : P.cellsOf e = 1)
    (hv : Value.okWide P w r b0 t v) (h : DataW.Trod enc P w base (fun _ => true) held t v d ps) :
    ∃ (a : Option Addr) (cap : Nat) (l : List (List Int × Int)), v = .slice a l.length cap ∧ RdY w 0 w.heap.size a l ∧ l.length ≤ maxLen := by
  subst t0 t1
  obtain ⟨a0, len0, cap0, rfl⟩ := okWide_slice ht hv
  obtain ⟨fuel, hf⟩ := h
  rcases open_slice_pairs ht hs ce o0 o1 hcq hc hf with ⟨hcs, _⟩ | ⟨a, len, cap, m, n, V0, V1, D0, D1, P0, P1, hcs, _, hl, hm, hmm, _, hx⟩
  · simp [Value.cells] at hcs
    obtain ⟨rfl, rfl, rfl⟩ := hcs
    exact ⟨none, 0, [], rfl, fun i hi => by simp at hi, by simp⟩
  · simp [Value.cells] at hcs
    obtain ⟨rfl, rfl, rfl⟩ := hcs
    simp only [if_true] at hmm
    obtain ⟨f, hf⟩ := choose_lt (α := List Int × Int) (n := len0) (p := fun i x => ∃ a' c', V0 i = .slice a' x.1.length c' ∧ V1 i = .int .i64 x.2 ∧ RdI w 0 w.heap.size a' x.1 ∧ x.1.length ≤ maxLen) (fun i hi => by
      obtain ⟨a', c', l, h1, h2, h3⟩ := open_rdI hq he hc (hx i (by omega)).2.2.1
      obtain ⟨z, h4, _⟩ := DataW.trod_int he (hx i (by omega)).2.2.2
      exact ⟨(l, z), a', c', h1, by simpa using h4, h2, h3⟩)
    have hlen : ((List.range len0).map f).length = len0 := by simp
    refine ⟨some a, cap0, (List.range len0).map f, by rw [hlen], fun i hi => ?_, by omega⟩
    rw [hlen] at hi
    obtain ⟨a', c', h1, h2, h3, h4⟩ := hf i hi
    obtain ⟨b, off, spot⟩ := a
    have hspot : spot = none := by simpa [Addr.add] using World.cell?_spot (hx 0 (by omega)).1
    subst hspot
    have hcell := (hx i (by omega)).1
    have hcell' := (hx i (by omega)).2.1
    rw [Addr.add_lit] at hcell hcell'
    have eg : ((List.range len0).map f).getD i ([], 0) = f i := by simp [List.getD, hi]
    rw [eg]
    exact ⟨b, off, a', c', rfl, Nat.zero_le _, World.block_lt_of_cell? w _ hcell, by rw [hcell, h1], by rw [Nat.add_assoc, hcell', h2], h3, h4⟩
end
end Go.Hyp
