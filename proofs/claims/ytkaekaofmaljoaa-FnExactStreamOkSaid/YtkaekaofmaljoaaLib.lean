/- Predicates on memory and plain lemmas that the walks of this seat use. -/
import Derived.WalkKit
import Derived.WalkSpells
import Derived.WalkLawsBesides
import Derived.Lib.Hide
import Derived.Deep.OwnRows
import Derived.Deep.DeepFit
import Derived.Deep.Draws
namespace Go.Hyp
open Go.RowKit Go.Deep

/-! ### Reading: slices of numbers -/

/-- The cells of a slice of numbers, in blocks from B on and below C. -/
def RdI (w : World) (B C : Nat) (a : Option Addr) (l : List Int) : Prop :=
  ∀ i, i < l.length → ∃ b off, a = some ⟨b, off, none⟩ ∧ B ≤ b ∧ b < C ∧ w.cell? ⟨b, off + i, none⟩ = some (.int .i64 (l.getD i 0))

/-- Blocks from B on and below C are in w' as they are in w. -/
def Agr (B C : Nat) (w w' : World) : Prop := ∀ b, B ≤ b → b < C → w'.heap[b]? = w.heap[b]?

theorem Agr.refl (B C : Nat) (w : World) : Agr B C w w := fun _ _ _ => rfl
theorem Agr.trans {B C : Nat} {w w1 w2 : World} (h : Agr B C w w1) (k : Agr B C w1 w2) : Agr B C w w2 := fun b h1 h2 => (k b h1 h2).trans (h b h1 h2)
theorem Agr.mono {B C B' C' : Nat} {w w' : World} (h : Agr B C w w') (h1 : B ≤ B') (h2 : C' ≤ C) : Agr B' C' w w' := fun b a1 a2 => h b (by omega) (by omega)
theorem Agr.set {B C k i : Nat} {w w' : World} (h : Agr B C w w') (hk : k < B ∨ C ≤ k) (v : Value) : Agr B C w (w'.setCell ⟨k, i, none⟩ v) :=
  fun b h1 h2 => (Below.heap_setCell _ _ _ _ (by show b ≠ k; omega)).trans (h b h1 h2)
theorem Agr.alloc {B C : Nat} {w w' : World} (h : Agr B C w w') (hC : C ≤ w'.heap.size) (o : Obj) : Agr B C w (w'.alloc o) :=
  fun b h1 h2 => (Below.heap_alloc _ _ _ (by omega)).trans (h b h1 h2)
theorem Agr.drew {B C : Nat} {w w' : World} (h : Agr B C w w') : Agr B C w w'.drew := h
theorem Agr.below {B C D : Nat} {w w1 w2 : World} (h : Agr B C w w1) (k : Below D w1 w2) (hC : C ≤ D) : Agr B C w w2 := fun b h1 h2 => (k.block b (by omega)).trans (h b h1 h2)
theorem agr_below {B C D : Nat} {w w' : World} (h : Below D w w') (hC : C ≤ D) : Agr B C w w' := fun b _ h2 => h.block b (by omega)

theorem RdI.agr {w w' : World} {B C : Nat} {a : Option Addr} {l : List Int} (h : RdI w B C a l) (k : Agr B C w w') : RdI w' B C a l := by
  intro i hi
  obtain ⟨b, off, e, h1, h2, hc⟩ := h i hi
  exact ⟨b, off, e, h1, h2, by rw [World.cell?_of_block (w := w) (k b h1 h2)]; exact hc⟩
theorem RdI.mono {w : World} {B C B' C' : Nat} {a : Option Addr} {l : List Int} (h : RdI w B C a l) (h1 : B' ≤ B) (h2 : C ≤ C') : RdI w B' C' a l := by
  intro i hi
  obtain ⟨b, off, e, g1, g2, hc⟩ := h i hi
  exact ⟨b, off, e, by omega, by omega, hc⟩
theorem RdI.below {w w' : World} {B C D : Nat} {a : Option Addr} {l : List Int} (h : RdI w B C a l) (k : Below D w w') (hC : C ≤ D) : RdI w' B C a l := h.agr (agr_below k hC)
theorem RdI.at {w : World} {B C : Nat} {a : Option Addr} {l : List Int} (h : RdI w B C a l) (i : Nat) (hi : i < l.length) :
    ∃ b off, a = some ⟨b, off, none⟩ ∧ B ≤ b ∧ b < C ∧ w.cell? ⟨b, off + i, none⟩ = some (.int .i64 l[i]) := by
  obtain ⟨b, off, e, h1, h2, hc⟩ := h i hi
  exact ⟨b, off, e, h1, h2, by rw [hc]; simp [List.getD, hi]⟩

/-! ### Owning: a slice of numbers at the head of a block of its own -/

/-- The slice stands at the head of a block of its own, from B on and below C; or it is nil. -/
def OwI (w : World) (E B C : Nat) (a : Option Addr) (cap : Nat) (l : List Int) : Prop :=
  (a = none ∧ l = [] ∧ cap = 0) ∨
  ∃ g f, a = some ⟨g, 0, none⟩ ∧ B ≤ g ∧ g < C ∧ w.rowIs g E cap f ∧ l.length ≤ cap ∧ cap ≤ maxLen ∧ ∀ i, i < l.length → f i = .int .i64 (l.getD i 0)

theorem OwI.rd {w : World} {E B C : Nat} {a : Option Addr} {cap : Nat} {l : List Int} (h : OwI w E B C a cap l) : RdI w B C a l := by
  rcases h with ⟨_, rfl, _⟩ | ⟨g, f, e, h1, h2, hr, hl, _, hf⟩
  · intro i hi; simp at hi
  · intro i hi
    exact ⟨g, 0, e, h1, h2, by rw [Nat.zero_add, hr.cell (by omega), hf i hi]⟩
theorem OwI.agr {w w' : World} {E B C : Nat} {a : Option Addr} {cap : Nat} {l : List Int} (h : OwI w E B C a cap l) (k : Agr B C w w') : OwI w' E B C a cap l := by
  rcases h with h | ⟨g, f, e, h1, h2, hr, r⟩
  · exact .inl h
  · exact .inr ⟨g, f, e, h1, h2, hr.of_block (k g h1 h2), r⟩
theorem OwI.mono {w : World} {E B C B' C' : Nat} {a : Option Addr} {cap : Nat} {l : List Int} (h : OwI w E B C a cap l) (h1 : B' ≤ B) (h2 : C ≤ C') : OwI w E B' C' a cap l := by
  rcases h with h | ⟨g, f, e, g1, g2, r⟩
  · exact .inl h
  · exact .inr ⟨g, f, e, by omega, by omega, r⟩
theorem OwI.below {w w' : World} {E B C D : Nat} {a : Option Addr} {cap : Nat} {l : List Int} (h : OwI w E B C a cap l) (k : Below D w w') (hC : C ≤ D) : OwI w' E B C a cap l := h.agr (agr_below k hC)
theorem OwI.len {w : World} {E B C : Nat} {a : Option Addr} {cap : Nat} {l : List Int} (h : OwI w E B C a cap l) : l.length ≤ maxLen := by
  rcases h with ⟨_, rfl, _⟩ | ⟨g, f, e, h1, h2, hr, hl, hm, hf⟩
  · simp
  · omega

/-- A call that hands back a new slice of numbers and turns nothing that was there. -/
def RetI (E : Nat) (l : List Int) (w : World) (e : Ending) (w' : World) : Prop :=
  ∃ a cap, e = .returned (.slice a l.length cap) ∧ OwI w' E w.heap.size w'.heap.size a cap l ∧ Below w.heap.size w w'

/-- Two slices lie in two blocks (or one is nil). -/
def Dis (a a' : Option Addr) : Prop := ∀ x y, a = some x → a' = some y → x.block ≠ y.block
theorem OwI.dis {w w' : World} {E B C E' B' C' : Nat} {a a' : Option Addr} {cap cap' : Nat} {l l' : List Int} (h : OwI w E B C a cap l) (h' : OwI w' E' B' C' a' cap' l') (hd : C ≤ B') : Dis a a' := by
  intro x y hx hy
  rcases h with ⟨rfl, _⟩ | ⟨g, f, rfl, h1, h2, _⟩
  · simp at hx
  · rcases h' with ⟨rfl, _⟩ | ⟨g', f', rfl, h1', h2', _⟩
    · simp at hy
    · cases hx; cases hy; show g ≠ g'; omega

/-- A call that hands back a new pair of slices of numbers and turns nothing that was there. -/
def RetS (E : Nat) (l1 l2 : List Int) (w : World) (e : Ending) (w' : World) : Prop :=
  ∃ a1 c1 a2 c2, e = .returned (.agg #[.slice a1 l1.length c1, .slice a2 l2.length c2]) ∧ OwI w' E w.heap.size w'.heap.size a1 c1 l1 ∧ OwI w' E w.heap.size w'.heap.size a2 c2 l2 ∧ Dis a1 a2 ∧ Below w.heap.size w w'

/-! ### Worlds -/

theorem below_trans {w w1 w2 : World} (h : Below w.heap.size w w1) (k : Below w1.heap.size w1 w2) : Below w.heap.size w w2 := h.trans (k.mono h.size)
theorem below_alloc (w : World) (o : Obj) : Below w.heap.size w (w.alloc o) := (Below.refl _ _).alloc (Nat.le_refl _) o
theorem undrew {w w' : World} (h : Below w.drew.heap.size w.drew w') : Below w.heap.size w w' := ⟨h.os, h.tape, h.output, h.size, h.block⟩
theorem bcell {W w1 : World} (hb : Below W.heap.size W w1) : (∀ b o, b < W.heap.size → w1.cell? ⟨b, o, none⟩ = W.cell? ⟨b, o, none⟩) ∧ (∀ b o, b < W.heap.size → w1.frozen? ⟨b, o, none⟩ = W.frozen? ⟨b, o, none⟩) :=
  ⟨fun b o h => hb.cell (p := ⟨b, o, none⟩) h, fun b o h => hb.frozen (p := ⟨b, o, none⟩) h⟩

/-! ### A block that is known whole -/
theorem heap_alloc (w : World) (o : Obj) (k : Nat) : (w.alloc o).heap[k]? = if k = w.heap.size then some o else w.heap[k]? := by
  show (w.heap.push o)[k]? = _
  rw [Array.getElem?_push]
theorem blk_new {w : World} {o : Obj} {k : Nat} (hk : k = w.heap.size) : (w.alloc o).heap[k]? = some o := by rw [heap_alloc, if_pos hk]
theorem blk_old {w : World} {o : Obj} {k : Nat} {x : Obj} (h : w.heap[k]? = some x) : (w.alloc o).heap[k]? = some x := by
  rw [heap_alloc, if_neg (by have := lt_of_block h; omega), h]
theorem alloc1 (w : World) (o1 : Obj) : (w.alloc o1).heap[w.heap.size]? = some o1 := blk_new rfl
theorem alloc2 (w : World) (o1 o2 : Obj) : ((w.alloc o1).alloc o2).heap[w.heap.size]? = some o1 ∧ ((w.alloc o1).alloc o2).heap[w.heap.size + 1]? = some o2 :=
  ⟨blk_old (blk_new rfl), blk_new (by simp)⟩
theorem alloc3 (w : World) (o1 o2 o3 : Obj) : (((w.alloc o1).alloc o2).alloc o3).heap[w.heap.size]? = some o1 ∧ (((w.alloc o1).alloc o2).alloc o3).heap[w.heap.size + 1]? = some o2 ∧
    (((w.alloc o1).alloc o2).alloc o3).heap[w.heap.size + 1 + 1]? = some o3 :=
  ⟨blk_old (alloc2 w _ _).1, blk_old (alloc2 w _ _).2, blk_new (by simp)⟩
theorem _root_.Go.RowKit.Below.blk {B b : Nat} {w w' : World} {o : Obj} (h : Below B w w') (hb : w.heap[b]? = some o) (hlt : b < B) : w'.heap[b]? = some o := (h.block b hlt).trans hb
theorem blk_cell {w : World} {b o : Nat} {c : Array Value} {T : TypeId} {f : Nat × Nat} {v : Value} (h : w.heap[b]? = some (.cells c T f)) (hv : c[o]? = some v) : w.cell? ⟨b, o, none⟩ = some v := by
  simp [World.cell?, h, hv]
theorem blk_free {w : World} {b : Nat} {c : Array Value} {T : TypeId} (h : w.heap[b]? = some (.cells c T (0, 0))) (o : Nat) : w.frozen? ⟨b, o, none⟩ = false := by
  simp [World.frozen?, h]
theorem blk_lt {w : World} {b : Nat} {o : Obj} (h : w.heap[b]? = some o) : b < w.heap.size := lt_of_block h
theorem blk_set {w : World} {b i : Nat} {c : Array Value} {T : TypeId} {f : Nat × Nat} (v : Value) (h : w.heap[b]? = some (.cells c T f)) :
    (w.setCell ⟨b, i, none⟩ v).heap[b]? = some (.cells (c.setIfInBounds i v) T f) := by
  simp [World.setCell, Array.getElem?_modify, h]
theorem blk_set_other {w : World} {b i k : Nat} {o : Option Obj} (v : Value) (h : w.heap[b]? = o) (hk : b ≠ k) : (w.setCell ⟨k, i, none⟩ v).heap[b]? = o := by
  rw [Below.heap_setCell _ _ _ _ hk, h]
theorem blk1 {w : World} {b : Nat} {v0 : Value} {T : TypeId} (h : w.heap[b]? = some (.cells #[v0] T (0, 0))) :
    w.cell? ⟨b, 0, none⟩ = some v0 ∧ w.frozen? ⟨b, 0, none⟩ = false := ⟨blk_cell h rfl, blk_free h 0⟩
theorem blk2 {w : World} {b : Nat} {v0 v1 : Value} {T : TypeId} (h : w.heap[b]? = some (.cells #[v0, v1] T (0, 0))) :
    w.cell? ⟨b, 0, none⟩ = some v0 ∧ w.cell? ⟨b, 1, none⟩ = some v1 ∧ w.frozen? ⟨b, 0, none⟩ = false ∧ w.frozen? ⟨b, 1, none⟩ = false := ⟨blk_cell h rfl, blk_cell h rfl, blk_free h 0, blk_free h 1⟩

/-! ### Endings -/
theorem ret_int {k : IntKind} {a b : Int} (h : a = b) : Ending.returned (.int k a) = .returned (.int k b) := by rw [h]
theorem ret_bool {a b : Bool} (h : a = b) : Ending.returned (.bool a) = .returned (.bool b) := by rw [h]

/-! ### Small plain functions and their laws -/

theorem getD_lt {l : List Int} {k : Nat} (h : k < l.length) : l.getD k 0 = l[k] := by simp [List.getD, h]
theorem below_drewN {B : Nat} {a w : World} (h : Below B a w) (q : Nat) : Below B a (w.drewN q) := ⟨h.os, h.tape, h.output, h.size, h.block⟩

/-- What a slice holds of which the first k numbers are copied. -/
def upTo (l : List Int) (k : Nat) : Nat → Value := fun j => if j < k then .int .i64 (l.getD j 0) else .int .i64 0
theorem upTo_succ {w : World} {b E n k : Nat} {l : List Int} (h : w.rowIs b E n (upTo l k)) : (w.setCell ⟨b, k, none⟩ (.int .i64 (l.getD k 0))).rowIs b E n (upTo l (k + 1)) := by
  refine (h.set k _).congr (fun j hj => ?_)
  unfold upTo
  by_cases e : j = k
  · subst e; simp
  · rw [if_neg e]
    by_cases hjk : j < k
    · rw [if_pos hjk, if_pos (by omega)]
    · rw [if_neg hjk, if_neg (by omega)]

theorem take_eq_succ {l l' : List Int} {k : Nat} (h : k < l.length) (h' : k < l'.length) (e : l.take k = l'.take k) (x : l[k] = l'[k]) : l.take (k + 1) = l'.take (k + 1) := by
  rw [List.take_succ_eq_append_getElem h, List.take_succ_eq_append_getElem h', e, x]

/-- All numbers are bits. -/
def bitB (x : Int) : Bool := x == 0 || x == 1
theorem bitB_in (n : Int) : (decide (0 ≤ n) && decide (n ≤ 1)) = bitB n := by
  unfold bitB
  by_cases h0 : n = 0
  · subst h0; rfl
  · by_cases h1 : n = 1
    · subst h1; rfl
    · rw [Bool.eq_iff_iff]; simp [h0, h1]; omega
def bitsB (l : List Int) : Bool := l.all bitB
theorem bitsB_succ (l : List Int) (k : Nat) (h : k < l.length) : bitsB (l.take (k + 1)) = (bitsB (l.take k) && bitB l[k]) := by
  unfold bitsB; rw [List.take_succ_eq_append_getElem h, List.all_append]; simp
theorem bitsB_no (l : List Int) (k : Nat) (h : k < l.length) (hb : bitB l[k] = false) : bitsB l = false := by
  unfold bitsB; rw [List.all_eq_false]; exact ⟨l[k], List.getElem_mem h, by simp [hb]⟩
/-- A stream. -/
def streamB (l1 l2 : List Int) : Bool := bitsB l1 && bitsB l2 && decide (1 ≤ l2.length) && decide (l1.length + l2.length ≤ 12)

/-- The law's counter of what came in. -/
def szI (k : Int) (n : Nat) : Int := if k < n then -1 else k - n
theorem szI_cases (k : Int) (n : Nat) : (k < n ∧ szI k n = -1) ∨ (n ≤ k ∧ szI k n = k - n) := by
  unfold szI
  by_cases h : k < n
  · exact .inl ⟨h, by rw [if_pos h]⟩
  · exact .inr ⟨by omega, by rw [if_neg h]⟩

end Go.Hyp
