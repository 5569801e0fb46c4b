/- How an argument that can be read as data lies in memory, in the words of the library text. -/
import Derived.ProofKit
import Derived.Lib.SmallJoins
import Derived.Test.YtgfoolneophkcaaM1
namespace Go.Hyp
open Go.RowKit Go.Deep Go.ChangeShapes Go.WideShapes Go.ChangeAt Go.Joins

section
variable {H : Type} {enc : TypeId × Value → H} {P : Program} {w : World} {base : Nat} {spare : Nat → Bool} {held : Bool}

theorem rdI_of_cells {a : Addr} {n : Nat} {zs : List Int} (hn : n ≤ zs.length) (hc : ∀ i, i < zs.length → w.cell? (a.add i) = some (.int .i64 (zs.getD i 0))) :
    (zs.take n).length = n ∧ RdI w 0 w.heap.size (some a) (zs.take n) := by
  have hl : (zs.take n).length = n := by simp; omega
  refine ⟨hl, fun i hi => ?_⟩
  rw [hl] at hi
  obtain ⟨b, off, spot⟩ := a
  have hspot : spot = none := by simpa [Addr.add] using World.cell?_spot (hc 0 (by omega))
  subst hspot
  have h := hc i (by omega)
  rw [Addr.add_lit] at h
  refine ⟨b, off, rfl, Nat.zero_le _, World.block_lt_of_cell? w _ h, ?_⟩
  rw [h]
  congr 2
  simp [List.getD, hi]

/-- A cell that holds a slice of numbers. -/
theorem open_rdI {t e : TypeId} {fuel : Nat} {v : Value} {x : DataW H × List MemPlace} (ht : P.underlying t = some (.slice e)) (he : P.underlying e = some (.int .i64)) (hc : P.cellsOf e = 1)
    (h : DataW.trod enc P w base (fun _ => true) held fuel t [v] = some x) :
    ∃ (a : Option Addr) (cap : Nat) (l : List Int), v = .slice a l.length cap ∧ RdI w 0 w.heap.size a l ∧ l.length ≤ maxLen := by
  rcases open_ints ht he hc h with ⟨hcs, _⟩ | ⟨a, len, cap, zs, hcs, _, hl, hm, hz, _, hcell, _⟩
  · simp at hcs
    exact ⟨none, 0, [], by simpa using hcs, fun i hi => by simp at hi, by simp⟩
  · simp only [List.cons.injEq, and_true] at hcs
    simp only [if_true] at hz
    obtain ⟨h1, h2⟩ := rdI_of_cells (n := len) (by omega) hcell
    exact ⟨some a, cap, zs.take len, by rw [h1]; exact hcs, h2, by omega⟩

/-- A slice of numbers. -/
theorem open_sliceI {t e : TypeId} {r : Reach} {b0 : Nat} {v : Value} {d : DataW H} {p : List MemPlace} (ht : P.underlying t = some (.slice e)) (he : P.underlying e = some (.int .i64)) (hc : P.cellsOf e = 1)
    (hv : Value.okWide P w r b0 t v) (h : DataW.Trod enc P w base (fun _ => true) held t v d p) :
    ∃ (a : Option Addr) (cap : Nat) (l : List Int), v = .slice a l.length cap ∧ RdI w 0 w.heap.size a l ∧ l.length ≤ maxLen := by
  obtain ⟨a0, len, cap, rfl⟩ := okWide_slice ht hv
  obtain ⟨fuel, hf⟩ := h
  exact open_rdI ht he hc (by simpa [Value.cells] using hf)

/-- A pair of slices of numbers, by value. -/
theorem open_pairI {t s e : TypeId} {n0 n1 : Field} {r : Reach} {b0 : Nat} {v : Value} {d : DataW H} {p : List MemPlace} (hs : P.underlying t = some (.struct #[n0, n1])) (hone : oneCellFields P #[n0, n1] = true) (hC : P.cellsOf t = 2)
    (t0 : n0.type = s) (t1 : n1.type = s) (ht : P.underlying s = some (.slice e)) (he : P.underlying e = some (.int .i64)) (hc : P.cellsOf e = 1)
    (hv : Value.okWide P w r b0 t v) (h : DataW.Trod enc P w base (fun _ => true) held t v d p) :
    ∃ (a1 : Option Addr) (c1 : Nat) (l1 : List Int) (a2 : Option Addr) (c2 : Nat) (l2 : List Int), v = .agg #[.slice a1 l1.length c1, .slice a2 l2.length c2] ∧
      RdI w 0 w.heap.size a1 l1 ∧ l1.length ≤ maxLen ∧ RdI w 0 w.heap.size a2 l2 ∧ l2.length ≤ maxLen := by
  obtain ⟨v0, v1, y0, y1, m, rfl, _, _, h0, h1⟩ := open_agg2 hs hone hC hv h
  rw [t0] at h0
  rw [t1] at h1
  obtain ⟨a1, c1, l1, rfl, r1, k1⟩ := open_rdI ht he hc h0
  obtain ⟨a2, c2, l2, rfl, r2, k2⟩ := open_rdI ht he hc h1
  exact ⟨a1, c1, l1, a2, c2, l2, rfl, r1, k1, r2, k2⟩
/-- A cell that holds a slice of slices of numbers. -/
theorem open_rdII {t q e : TypeId} {fuel : Nat} {v : Value} {x : DataW H × List MemPlace} (ht : P.underlying t = some (.slice q)) (hq : P.underlying q = some (.slice e)) (he : P.underlying e = some (.int .i64)) (hcq : P.cellsOf q = 1) (hc : P.cellsOf e = 1)
    (h : DataW.trod enc P w base (fun _ => true) held fuel t [v] = some x) :
    ∃ (a : Option Addr) (cap : Nat) (p : List (List Int)), v = .slice a p.length cap ∧ RdII w 0 w.heap.size a p ∧ p.length ≤ maxLen := by
  rcases open_slice1 ht hcq h with ⟨hcs, _⟩ | ⟨a, len, cap, m, n, V, D, Pl, hcs, _, hl, hm, hmm, _, hx⟩
  · simp at hcs
    exact ⟨none, 0, [], by simpa using hcs, fun i hi => by simp at hi, by simp⟩
  · simp only [List.cons.injEq, and_true] at hcs
    simp only [if_true] at hmm
    obtain ⟨f, hf⟩ := choose_lt (α := List Int) (n := len) (p := fun i l => ∃ a' c', V i = .slice a' l.length c' ∧ RdI w 0 w.heap.size a' l ∧ l.length ≤ maxLen) (fun i hi => by
      obtain ⟨a', c', l, h1, h2, h3⟩ := open_rdI hq he hc (hx i (by omega)).2
      exact ⟨l, a', c', h1, h2, h3⟩)
    have hlen : ((List.range len).map f).length = len := by simp
    refine ⟨some a, cap, (List.range len).map f, by rw [hlen]; exact hcs, fun i hi => ?_, by omega⟩
    rw [hlen] at hi
    obtain ⟨a', c', h1, h2, h3⟩ := hf i hi
    obtain ⟨b, off, spot⟩ := a
    have hspot : spot = none := by simpa [Addr.add] using World.cell?_spot (hx 0 (by omega)).1
    subst hspot
    have hcell := (hx i (by omega)).1
    rw [Addr.add_lit] at hcell
    have eg : ((List.range len).map f).getD i [] = f i := by simp [List.getD, hi]
    rw [eg]
    exact ⟨b, off, a', c', rfl, Nat.zero_le _, World.block_lt_of_cell? w _ hcell, by rw [hcell, h1], h2, h3⟩

theorem open_rows {t q e : TypeId} {r : Reach} {b0 : Nat} {v : Value} {d : DataW H} {ps : List MemPlace} (ht : P.underlying t = some (.slice q)) (hq : P.underlying q = some (.slice e)) (he : P.underlying e = some (.int .i64)) (hcq : P.cellsOf q = 1) (hc : P.cellsOf e = 1)
    (hv : Value.okWide P w r b0 t v) (h : DataW.Trod enc P w base (fun _ => true) held t v d ps) :
    ∃ (a : Option Addr) (cap : Nat) (p : List (List Int)), v = .slice a p.length cap ∧ RdII w 0 w.heap.size a p ∧ p.length ≤ maxLen := by
  obtain ⟨a0, len, cap, rfl⟩ := okWide_slice ht hv
  obtain ⟨fuel, hf⟩ := h
  exact open_rdII ht hq he hcq hc (by simpa [Value.cells] using hf)
/-- A slice of bytes. -/
theorem open_bytes {t e : TypeId} {r : Reach} {b0 : Nat} {v : Value} {d : DataW H} {p : List MemPlace} (ht : P.underlying t = some (.slice e)) (he : P.underlying e = some (.int .u8)) (hc : P.cellsOf e = 1)
    (hv : Value.okWide P w r b0 t v) (h : DataW.Trod enc P w base (fun _ => true) held t v d p) :
    ∃ (a : Option Addr) (cap : Nat) (l : List Int), v = .slice a l.length cap ∧ RdB w w.heap.size a l ∧ (l.length ≤ maxLen ∧ l.length ≤ cap) := by
  obtain ⟨a0, len, cap, rfl⟩ := okWide_slice ht hv
  obtain ⟨fuel, hf⟩ := h
  rcases open_ints ht he hc hf with ⟨hcs, _⟩ | ⟨a, len', cap', zs, hcs, _, hl, hm, hz, _, hcell, hwz⟩
  · simp [Value.cells] at hcs
    obtain ⟨rfl, rfl, rfl⟩ := hcs
    exact ⟨none, 0, [], rfl, fun i hi => by simp at hi, by simp, by simp⟩
  · simp [Value.cells] at hcs
    obtain ⟨rfl, rfl, rfl⟩ := hcs
    simp only [if_true] at hz
    have hlen : (zs.take len).length = len := by simp; omega
    refine ⟨some a, cap, zs.take len, by rw [hlen], fun i hi => ?_, by omega, by omega⟩
    rw [hlen] at hi
    obtain ⟨b, off, spot⟩ := a
    have hspot : spot = none := by simpa [Addr.add] using World.cell?_spot (hcell 0 (by omega))
    subst hspot
    have h := hcell i (by omega)
    rw [Addr.add_lit] at h
    have eg : (zs.take len).getD i 0 = zs.getD i 0 := by simp [List.getD, hi]
    have hi' : i < zs.length := by omega
    have hw := hwz (zs.getD i 0) (by simp [List.getD, hi'])
    have h1 : IntKind.u8.min = 0 := rfl
    have h2 : IntKind.u8.max = 255 := rfl
    simp only [Lit.wf, Bool.and_eq_true, decide_eq_true_eq] at hw
    rw [eg]
    exact ⟨b, off, rfl, World.block_lt_of_cell? w _ h, h, by omega, by omega⟩
end
end Go.Hyp
