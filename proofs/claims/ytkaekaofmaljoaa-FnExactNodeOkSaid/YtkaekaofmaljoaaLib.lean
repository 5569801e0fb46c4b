/- Predicates on memory and plain lemmas that the walks of this seat use. -/
import Derived.WalkKit
import Derived.WalkSpells
import Derived.WalkLawsBesides
import Derived.Lib.Hide
import Derived.Deep.OwnRows
import Derived.Deep.DeepFit
import Derived.Deep.Draws
namespace Go.RowKit
theorem Below.blk {B b : Nat} {w w' : World} {o : Obj} (h : Below B w w') (hb : w.heap[b]? = some o) (hlt : b < B) : w'.heap[b]? = some o := (h.block b hlt).trans hb
end Go.RowKit
namespace Go.Hyp
open Go.RowKit Go.Deep

/-! ### Reading: slices of numbers -/

/-- The cells of a slice of numbers, in blocks from B on and below C. -/
def RdI (w : World) (B C : Nat) (a : Option Addr) (l : List Int) : Prop :=
  ∀ i, i < l.length → ∃ b off, a = some ⟨b, off, none⟩ ∧ B ≤ b ∧ b < C ∧ w.cell? ⟨b, off + i, none⟩ = some (.int .i64 (l.getD i 0))

/-- Blocks from B on and below C are in w' as they are in w. -/
def Agr (B C : Nat) (w w' : World) : Prop := ∀ b, B ≤ b → b < C → w'.heap[b]? = w.heap[b]?

theorem Agr.refl (B C : Nat) (w : World) : Agr B C w w := fun _ _ _ => rfl
theorem Agr.trans {B C : Nat} {w w1 w2 : World} (h : Agr B C w w1) (k : Agr B C w1 w2) : Agr B C w w2 := fun b h1 h2 => (k b h1 h2).trans (h b h1 h2)
theorem Agr.mono {B C B' C' : Nat} {w w' : World} (h : Agr B C w w') (h1 : B ≤ B') (h2 : C' ≤ C) : Agr B' C' w w' := fun b a1 a2 => h b (by omega) (by omega)
theorem Agr.set {B C k i : Nat} {w w' : World} (h : Agr B C w w') (hk : k < B ∨ C ≤ k) (v : Value) : Agr B C w (w'.setCell ⟨k, i, none⟩ v) :=
  fun b h1 h2 => (Below.heap_setCell _ _ _ _ (by show b ≠ k; omega)).trans (h b h1 h2)
theorem Agr.alloc {B C : Nat} {w w' : World} (h : Agr B C w w') (hC : C ≤ w'.heap.size) (o : Obj) : Agr B C w (w'.alloc o) :=
  fun b h1 h2 => (Below.heap_alloc _ _ _ (by omega)).trans (h b h1 h2)
theorem Agr.drew {B C : Nat} {w w' : World} (h : Agr B C w w') : Agr B C w w'.drew := h
theorem Agr.below {B C D : Nat} {w w1 w2 : World} (h : Agr B C w w1) (k : Below D w1 w2) (hC : C ≤ D) : Agr B C w w2 := fun b h1 h2 => (k.block b (by omega)).trans (h b h1 h2)
theorem agr_below {B C D : Nat} {w w' : World} (h : Below D w w') (hC : C ≤ D) : Agr B C w w' := fun b _ h2 => h.block b (by omega)

theorem RdI.agr {w w' : World} {B C : Nat} {a : Option Addr} {l : List Int} (h : RdI w B C a l) (k : Agr B C w w') : RdI w' B C a l := by
  intro i hi
  obtain ⟨b, off, e, h1, h2, hc⟩ := h i hi
  exact ⟨b, off, e, h1, h2, by rw [World.cell?_of_block (w := w) (k b h1 h2)]; exact hc⟩
theorem RdI.mono {w : World} {B C B' C' : Nat} {a : Option Addr} {l : List Int} (h : RdI w B C a l) (h1 : B' ≤ B) (h2 : C ≤ C') : RdI w B' C' a l := by
  intro i hi
  obtain ⟨b, off, e, g1, g2, hc⟩ := h i hi
  exact ⟨b, off, e, by omega, by omega, hc⟩
theorem RdI.below {w w' : World} {B C D : Nat} {a : Option Addr} {l : List Int} (h : RdI w B C a l) (k : Below D w w') (hC : C ≤ D) : RdI w' B C a l := h.agr (agr_below k hC)
theorem RdI.at {w : World} {B C : Nat} {a : Option Addr} {l : List Int} (h : RdI w B C a l) (i : Nat) (hi : i < l.length) :
    ∃ b off, a = some ⟨b, off, none⟩ ∧ B ≤ b ∧ b < C ∧ w.cell? ⟨b, off + i, none⟩ = some (.int .i64 l[i]) := by
  obtain ⟨b, off, e, h1, h2, hc⟩ := h i hi
  exact ⟨b, off, e, h1, h2, by rw [hc]; simp [List.getD, hi]⟩

/-! ### Owning: a slice of numbers at the head of a block of its own -/

/-- The slice stands at the head of a block of its own, from B on and below C; or it is nil. -/
def OwI (w : World) (E B C : Nat) (a : Option Addr) (cap : Nat) (l : List Int) : Prop :=
  (a = none ∧ l = [] ∧ cap = 0) ∨
  ∃ g f, a = some ⟨g, 0, none⟩ ∧ B ≤ g ∧ g < C ∧ w.rowIs g E cap f ∧ l.length ≤ cap ∧ cap ≤ maxLen ∧ ∀ i, i < l.length → f i = .int .i64 (l.getD i 0)

theorem OwI.rd {w : World} {E B C : Nat} {a : Option Addr} {cap : Nat} {l : List Int} (h : OwI w E B C a cap l) : RdI w B C a l := by
  rcases h with ⟨_, rfl, _⟩ | ⟨g, f, e, h1, h2, hr, hl, _, hf⟩
  · intro i hi; simp at hi
  · intro i hi
    exact ⟨g, 0, e, h1, h2, by rw [Nat.zero_add, hr.cell (by omega), hf i hi]⟩
theorem OwI.agr {w w' : World} {E B C : Nat} {a : Option Addr} {cap : Nat} {l : List Int} (h : OwI w E B C a cap l) (k : Agr B C w w') : OwI w' E B C a cap l := by
  rcases h with h | ⟨g, f, e, h1, h2, hr, r⟩
  · exact .inl h
  · exact .inr ⟨g, f, e, h1, h2, hr.of_block (k g h1 h2), r⟩
theorem OwI.mono {w : World} {E B C B' C' : Nat} {a : Option Addr} {cap : Nat} {l : List Int} (h : OwI w E B C a cap l) (h1 : B' ≤ B) (h2 : C ≤ C') : OwI w E B' C' a cap l := by
  rcases h with h | ⟨g, f, e, g1, g2, r⟩
  · exact .inl h
  · exact .inr ⟨g, f, e, by omega, by omega, r⟩
theorem OwI.below {w w' : World} {E B C D : Nat} {a : Option Addr} {cap : Nat} {l : List Int} (h : OwI w E B C a cap l) (k : Below D w w') (hC : C ≤ D) : OwI w' E B C a cap l := h.agr (agr_below k hC)
theorem OwI.len {w : World} {E B C : Nat} {a : Option Addr} {cap : Nat} {l : List Int} (h : OwI w E B C a cap l) : l.length ≤ maxLen := by
  rcases h with ⟨_, rfl, _⟩ | ⟨g, f, e, h1, h2, hr, hl, hm, hf⟩
  · simp
  · omega

/-- A call that hands back a new slice of numbers and turns nothing that was there. -/
def RetI (E : Nat) (l : List Int) (w : World) (e : Ending) (w' : World) : Prop :=
  ∃ a cap, e = .returned (.slice a l.length cap) ∧ OwI w' E w.heap.size w'.heap.size a cap l ∧ Below w.heap.size w w'

/-- Two slices lie in two blocks (or one is nil). -/
def Dis (a a' : Option Addr) : Prop := ∀ x y, a = some x → a' = some y → x.block ≠ y.block
theorem OwI.dis {w w' : World} {E B C E' B' C' : Nat} {a a' : Option Addr} {cap cap' : Nat} {l l' : List Int} (h : OwI w E B C a cap l) (h' : OwI w' E' B' C' a' cap' l') (hd : C ≤ B') : Dis a a' := by
  intro x y hx hy
  rcases h with ⟨rfl, _⟩ | ⟨g, f, rfl, h1, h2, _⟩
  · simp at hx
  · rcases h' with ⟨rfl, _⟩ | ⟨g', f', rfl, h1', h2', _⟩
    · simp at hy
    · cases hx; cases hy; show g ≠ g'; omega

/-- A call that hands back a new pair of slices of numbers and turns nothing that was there. -/
def RetS (E : Nat) (l1 l2 : List Int) (w : World) (e : Ending) (w' : World) : Prop :=
  ∃ a1 c1 a2 c2, e = .returned (.agg #[.slice a1 l1.length c1, .slice a2 l2.length c2]) ∧ OwI w' E w.heap.size w'.heap.size a1 c1 l1 ∧ OwI w' E w.heap.size w'.heap.size a2 c2 l2 ∧ Dis a1 a2 ∧ Below w.heap.size w w'

/-! ### Worlds -/

theorem below_drewN {B : Nat} {a w : World} (h : Below B a w) (q : Nat) : Below B a (w.drewN q) := ⟨h.os, h.tape, h.output, h.size, h.block⟩
theorem below_trans {w w1 w2 : World} (h : Below w.heap.size w w1) (k : Below w1.heap.size w1 w2) : Below w.heap.size w w2 := h.trans (k.mono h.size)
theorem below_alloc (w : World) (o : Obj) : Below w.heap.size w (w.alloc o) := (Below.refl _ _).alloc (Nat.le_refl _) o
theorem undrew {w w' : World} (h : Below w.drew.heap.size w.drew w') : Below w.heap.size w w' := ⟨h.os, h.tape, h.output, h.size, h.block⟩
theorem bcell {W w1 : World} (hb : Below W.heap.size W w1) : (∀ b o, b < W.heap.size → w1.cell? ⟨b, o, none⟩ = W.cell? ⟨b, o, none⟩) ∧ (∀ b o, b < W.heap.size → w1.frozen? ⟨b, o, none⟩ = W.frozen? ⟨b, o, none⟩) :=
  ⟨fun b o h => hb.cell (p := ⟨b, o, none⟩) h, fun b o h => hb.frozen (p := ⟨b, o, none⟩) h⟩

/-- w' is w but for draws. -/
def Qt (w w' : World) : Prop := ∃ n, w' = w.drewN n
theorem Qt.refl (w : World) : Qt w w := ⟨0, rfl⟩
theorem Qt.trans {w w1 w2 : World} (h : Qt w w1) (k : Qt w1 w2) : Qt w w2 := by
  obtain ⟨n, rfl⟩ := h; obtain ⟨m, rfl⟩ := k; exact ⟨n + m, World.drewN_drewN _ _ _⟩
theorem Qt.n {w w1 : World} (h : Qt w w1) (n : Nat) : Qt w (w1.drewN n) := h.trans ⟨n, rfl⟩
theorem Qt.agr {B C : Nat} {w w' : World} (h : Qt w w') : Agr B C w w' := by obtain ⟨n, rfl⟩ := h; exact fun _ _ _ => rfl
theorem Qt.below {B : Nat} {w w' : World} (h : Qt w w') : Below B w w' := by obtain ⟨n, rfl⟩ := h; exact below_drewN (Below.refl _ _) n
theorem quietQ {P : Program} {f : FuncId} {args : Array Value} {w : World} {n : Nat} {v : Value}
    (h : Calls P f args (w.drewN n) fun e w' => e = .returned v ∧ Qt (w.drewN n) w') : Calls P f args (w.drewN n) fun e w'' => e = .returned v ∧ ∃ m, w'' = w.drewN m :=
  h.mono fun _ _ ⟨he, m, hm⟩ => ⟨he, n + m, by rw [hm, World.drewN_drewN]⟩

/-! ### A block that is known whole -/
theorem heap_alloc (w : World) (o : Obj) (k : Nat) : (w.alloc o).heap[k]? = if k = w.heap.size then some o else w.heap[k]? := by
  show (w.heap.push o)[k]? = _
  rw [Array.getElem?_push]
theorem blk_new {w : World} {o : Obj} {k : Nat} (hk : k = w.heap.size) : (w.alloc o).heap[k]? = some o := by rw [heap_alloc, if_pos hk]
theorem blk_old {w : World} {o : Obj} {k : Nat} {x : Obj} (h : w.heap[k]? = some x) : (w.alloc o).heap[k]? = some x := by
  rw [heap_alloc, if_neg (by have := lt_of_block h; omega), h]
theorem alloc1 (w : World) (o1 : Obj) : (w.alloc o1).heap[w.heap.size]? = some o1 := blk_new rfl
theorem alloc2 (w : World) (o1 o2 : Obj) : ((w.alloc o1).alloc o2).heap[w.heap.size]? = some o1 ∧ ((w.alloc o1).alloc o2).heap[w.heap.size + 1]? = some o2 :=
  ⟨blk_old (blk_new rfl), blk_new (by simp)⟩
theorem alloc3 (w : World) (o1 o2 o3 : Obj) : (((w.alloc o1).alloc o2).alloc o3).heap[w.heap.size]? = some o1 ∧ (((w.alloc o1).alloc o2).alloc o3).heap[w.heap.size + 1]? = some o2 ∧
    (((w.alloc o1).alloc o2).alloc o3).heap[w.heap.size + 1 + 1]? = some o3 :=
  ⟨blk_old (alloc2 w _ _).1, blk_old (alloc2 w _ _).2, blk_new (by simp)⟩
theorem blk_cell {w : World} {b o : Nat} {c : Array Value} {T : TypeId} {f : Nat × Nat} {v : Value} (h : w.heap[b]? = some (.cells c T f)) (hv : c[o]? = some v) : w.cell? ⟨b, o, none⟩ = some v := by
  simp [World.cell?, h, hv]
theorem blk_free {w : World} {b : Nat} {c : Array Value} {T : TypeId} (h : w.heap[b]? = some (.cells c T (0, 0))) (o : Nat) : w.frozen? ⟨b, o, none⟩ = false := by
  simp [World.frozen?, h]
theorem blk_lt {w : World} {b : Nat} {o : Obj} (h : w.heap[b]? = some o) : b < w.heap.size := lt_of_block h
theorem blk_set {w : World} {b i : Nat} {c : Array Value} {T : TypeId} {f : Nat × Nat} (v : Value) (h : w.heap[b]? = some (.cells c T f)) :
    (w.setCell ⟨b, i, none⟩ v).heap[b]? = some (.cells (c.setIfInBounds i v) T f) := by
  simp [World.setCell, Array.getElem?_modify, h]
theorem blk_set_other {w : World} {b i k : Nat} {o : Option Obj} (v : Value) (h : w.heap[b]? = o) (hk : b ≠ k) : (w.setCell ⟨k, i, none⟩ v).heap[b]? = o := by
  rw [Below.heap_setCell _ _ _ _ hk, h]
theorem blk1 {w : World} {b : Nat} {v0 : Value} {T : TypeId} (h : w.heap[b]? = some (.cells #[v0] T (0, 0))) :
    w.cell? ⟨b, 0, none⟩ = some v0 ∧ w.frozen? ⟨b, 0, none⟩ = false := ⟨blk_cell h rfl, blk_free h 0⟩
theorem blk2 {w : World} {b : Nat} {v0 v1 : Value} {T : TypeId} (h : w.heap[b]? = some (.cells #[v0, v1] T (0, 0))) :
    w.cell? ⟨b, 0, none⟩ = some v0 ∧ w.cell? ⟨b, 1, none⟩ = some v1 ∧ w.frozen? ⟨b, 0, none⟩ = false ∧ w.frozen? ⟨b, 1, none⟩ = false := ⟨blk_cell h rfl, blk_cell h rfl, blk_free h 0, blk_free h 1⟩

/-! ### Endings -/
theorem ret_int {k : IntKind} {a b : Int} (h : a = b) : Ending.returned (.int k a) = .returned (.int k b) := by rw [h]
theorem ret_bool {a b : Bool} (h : a = b) : Ending.returned (.bool a) = .returned (.bool b) := by rw [h]

/-! ### Small plain functions and their laws -/

theorem getD_lt {l : List Int} {k : Nat} (h : k < l.length) : l.getD k 0 = l[k] := by simp [List.getD, h]

/-- What a slice holds of which the first k numbers are copied. -/
def upTo (l : List Int) (k : Nat) : Nat → Value := fun j => if j < k then .int .i64 (l.getD j 0) else .int .i64 0
theorem upTo_succ {w : World} {b E n k : Nat} {l : List Int} (h : w.rowIs b E n (upTo l k)) : (w.setCell ⟨b, k, none⟩ (.int .i64 (l.getD k 0))).rowIs b E n (upTo l (k + 1)) := by
  refine (h.set k _).congr (fun j hj => ?_)
  unfold upTo
  by_cases e : j = k
  · subst e; simp
  · rw [if_neg e]
    by_cases hjk : j < k
    · rw [if_pos hjk, if_pos (by omega)]
    · rw [if_neg hjk, if_neg (by omega)]

theorem take_eq_succ {α : Type} {l l' : List α} {k : Nat} (h : k < l.length) (h' : k < l'.length) (e : l.take k = l'.take k) (x : l[k] = l'[k]) : l.take (k + 1) = l'.take (k + 1) := by
  rw [List.take_succ_eq_append_getElem h, List.take_succ_eq_append_getElem h', e, x]

/-- All numbers are bits. -/
def bitB (x : Int) : Bool := x == 0 || x == 1
theorem bitB_in (n : Int) : (decide (0 ≤ n) && decide (n ≤ 1)) = bitB n := by
  unfold bitB
  by_cases h0 : n = 0
  · subst h0; rfl
  · by_cases h1 : n = 1
    · subst h1; rfl
    · rw [Bool.eq_iff_iff]; simp [h0, h1]; omega
def bitsB (l : List Int) : Bool := l.all bitB
theorem bitsB_succ (l : List Int) (k : Nat) (h : k < l.length) : bitsB (l.take (k + 1)) = (bitsB (l.take k) && bitB l[k]) := by
  unfold bitsB; rw [List.take_succ_eq_append_getElem h, List.all_append]; simp
theorem bitsB_no (l : List Int) (k : Nat) (h : k < l.length) (hb : bitB l[k] = false) : bitsB l = false := by
  unfold bitsB; rw [List.all_eq_false]; exact ⟨l[k], List.getElem_mem h, by simp [hb]⟩
/-- A stream. -/
def streamB (l1 l2 : List Int) : Bool := bitsB l1 && bitsB l2 && decide (1 ≤ l2.length) && decide (l1.length + l2.length ≤ 12)

/-- The bit of a stream at a place. -/
def bitOf (l1 l2 : List Int) (k : Nat) : Int := if k < l1.length then l1.getD k 0 else l2.getD ((k - l1.length) % l2.length) 0
def bitAtI (l1 l2 : List Int) (n : Int) : Int := if (streamB l1 l2 && (decide (0 ≤ n) && decide (n ≤ 999))) = true then bitOf l1 l2 n.toNat else -1
theorem streamB_pos {l1 l2 : List Int} (h : streamB l1 l2 = true) : 1 ≤ l2.length := by
  unfold streamB at h; simp at h; omega

/-- The law's counter of what came in. -/
def szI (k : Int) (n : Nat) : Int := if k < n then -1 else k - n
theorem szI_cases (k : Int) (n : Nat) : (k < n ∧ szI k n = -1) ∨ (n ≤ k ∧ szI k n = k - n) := by
  unfold szI
  by_cases h : k < n
  · exact .inl ⟨h, by rw [if_pos h]⟩
  · exact .inr ⟨by omega, by rw [if_neg h]⟩

/-! ### Rows of numbers -/

/-- The cells of a slice of slices of numbers, all in blocks from B on and below C. -/
def RdII (w : World) (B C : Nat) (a : Option Addr) (p : List (List Int)) : Prop :=
  ∀ i, i < p.length → ∃ b off a' cap, a = some ⟨b, off, none⟩ ∧ B ≤ b ∧ b < C ∧ w.cell? ⟨b, off + i, none⟩ = some (.slice a' (p.getD i []).length cap) ∧
    RdI w B C a' (p.getD i []) ∧ (p.getD i []).length ≤ maxLen
theorem RdII.agr {w w' : World} {B C : Nat} {a : Option Addr} {p : List (List Int)} (h : RdII w B C a p) (k : Agr B C w w') : RdII w' B C a p := by
  intro i hi
  obtain ⟨b, off, a', cap, e, h1, h2, hc, hr, hl⟩ := h i hi
  exact ⟨b, off, a', cap, e, h1, h2, by rw [World.cell?_of_block (w := w) (k b h1 h2)]; exact hc, hr.agr k, hl⟩
theorem RdII.mono {w : World} {B C B' C' : Nat} {a : Option Addr} {p : List (List Int)} (h : RdII w B C a p) (h1 : B' ≤ B) (h2 : C ≤ C') : RdII w B' C' a p := by
  intro i hi
  obtain ⟨b, off, a', cap, e, g1, g2, hc, hr, hl⟩ := h i hi
  exact ⟨b, off, a', cap, e, by omega, by omega, hc, hr.mono h1 h2, hl⟩
theorem RdII.below {w w' : World} {B C D : Nat} {a : Option Addr} {p : List (List Int)} (h : RdII w B C a p) (k : Below D w w') (hC : C ≤ D) : RdII w' B C a p := h.agr (agr_below k hC)
theorem RdII.at {w : World} {B C : Nat} {a : Option Addr} {p : List (List Int)} (h : RdII w B C a p) (i : Nat) (hi : i < p.length) :
    ∃ b off a' cap, a = some ⟨b, off, none⟩ ∧ B ≤ b ∧ b < C ∧ w.cell? ⟨b, off + i, none⟩ = some (.slice a' p[i].length cap) ∧ RdI w B C a' p[i] ∧ p[i].length ≤ maxLen := by
  obtain ⟨b, off, a', cap, e, h1, h2, hc, hr, hl⟩ := h i hi
  have eg : p.getD i [] = p[i] := by simp [List.getD, hi]
  rw [eg] at hc hr hl
  exact ⟨b, off, a', cap, e, h1, h2, hc, hr, hl⟩

/-- How many numbers rows hold together. -/
def lens (p : List (List Int)) : Nat := (p.map List.length).sum
theorem lens_succ (p : List (List Int)) (k : Nat) (h : k < p.length) : lens (p.take (k + 1)) = lens (p.take k) + p[k].length := by
  unfold lens; rw [List.take_succ_eq_append_getElem h, List.map_append, List.sum_append]; simp
theorem lens_le (p : List (List Int)) (k : Nat) : lens (p.take k) ≤ lens p := by
  have e : lens p = lens (p.take k) + lens (p.drop k) := by
    unfold lens; rw [← List.sum_append, ← List.map_append, List.take_append_drop]
  omega
theorem lens_at (p : List (List Int)) (k : Nat) (h : k < p.length) : p[k].length ≤ lens p := by
  have := lens_succ p k h; have := lens_le p (k + 1); omega
/-- The law's counter over rows. -/
def szII (k : Int) (p : List (List Int)) : Int := if k < p.length + lens p then -1 else k - (p.length + lens p)
theorem szII_cases (k : Int) (p : List (List Int)) : (k < p.length + lens p ∧ szII k p = -1) ∨ ((p.length + lens p : Int) ≤ k ∧ szII k p = k - (p.length + lens p)) := by
  unfold szII
  by_cases h : k < p.length + lens p
  · exact .inl ⟨h, by rw [if_pos h]⟩
  · exact .inr ⟨by omega, by rw [if_neg h]⟩

/-- All rows are of so many bits. -/
def rowsB (n : Nat) (p : List (List Int)) : Bool := p.all fun l => bitsB l && decide (l.length = n)
theorem rowsB_succ (n : Nat) (p : List (List Int)) (k : Nat) (h : k < p.length) : rowsB n (p.take (k + 1)) = (rowsB n (p.take k) && (bitsB p[k] && decide (p[k].length = n))) := by
  unfold rowsB; rw [List.take_succ_eq_append_getElem h, List.all_append]; simp
theorem rowsB_no (n : Nat) (p : List (List Int)) (k : Nat) (h : k < p.length) (hb : (bitsB p[k] && decide (p[k].length = n)) = false) : rowsB n p = false := by
  unfold rowsB; rw [List.all_eq_false]; exact ⟨p[k], List.getElem_mem h, by simpa using hb⟩
/-- A picture; a node of one. -/
def picB (p : List (List Int)) : Bool := decide (1 ≤ p.length) && decide (p.length ≤ 5) && rowsB p.length p
def nodeB (p : List (List Int)) (n : Int) : Bool := picB p && decide (0 ≤ n) && decide (n < p.length)

/-! ### Owning rows -/

/-- The slice stands at the head of a block of its own that holds f. -/
def OwV (w : World) (E B C : Nat) (a : Option Addr) (cap n : Nat) (f : Nat → Value) : Prop :=
  (a = none ∧ n = 0 ∧ cap = 0) ∨ ∃ g F, a = some ⟨g, 0, none⟩ ∧ B ≤ g ∧ g < C ∧ w.rowIs g E cap F ∧ n ≤ cap ∧ cap ≤ maxLen ∧ ∀ i, i < n → F i = f i
/-- Rows of numbers, each in a block of its own. E: the numbers' type, R: the rows'. -/
def OwII (w : World) (E R B C : Nat) (a : Option Addr) (cap : Nat) (p : List (List Int)) : Prop :=
  ∃ (ra : Nat → Option Addr) (rc : Nat → Nat), OwV w R B C a cap p.length (fun i => .slice (ra i) (p.getD i []).length (rc i)) ∧
    (∀ i, i < p.length → OwI w E B C (ra i) (rc i) (p.getD i [])) ∧ (∀ i j, i < j → j < p.length → Dis (ra i) (ra j)) ∧ (∀ i, i < p.length → Dis a (ra i))

theorem OwV.agr {w w' : World} {E B C : Nat} {a : Option Addr} {cap n : Nat} {f : Nat → Value} (h : OwV w E B C a cap n f) (k : Agr B C w w') : OwV w' E B C a cap n f := by
  rcases h with h | ⟨g, F, e, h1, h2, hr, r⟩
  · exact .inl h
  · exact .inr ⟨g, F, e, h1, h2, hr.of_block (k g h1 h2), r⟩
theorem OwV.mono {w : World} {E B C B' C' : Nat} {a : Option Addr} {cap n : Nat} {f : Nat → Value} (h : OwV w E B C a cap n f) (h1 : B' ≤ B) (h2 : C ≤ C') : OwV w E B' C' a cap n f := by
  rcases h with h | ⟨g, F, e, g1, g2, r⟩
  · exact .inl h
  · exact .inr ⟨g, F, e, by omega, by omega, r⟩
theorem OwII.agr {w w' : World} {E R B C : Nat} {a : Option Addr} {cap : Nat} {p : List (List Int)} (h : OwII w E R B C a cap p) (k : Agr B C w w') : OwII w' E R B C a cap p := by
  obtain ⟨ra, rc, h1, h2, h3⟩ := h
  exact ⟨ra, rc, h1.agr k, fun i hi => (h2 i hi).agr k, h3⟩
theorem OwII.mono {w : World} {E R B C B' C' : Nat} {a : Option Addr} {cap : Nat} {p : List (List Int)} (h : OwII w E R B C a cap p) (h1 : B' ≤ B) (h2 : C ≤ C') : OwII w E R B' C' a cap p := by
  obtain ⟨ra, rc, g1, g2, g3⟩ := h
  exact ⟨ra, rc, g1.mono h1 h2, fun i hi => (g2 i hi).mono h1 h2, g3⟩
theorem OwII.below {w w' : World} {E R B C D : Nat} {a : Option Addr} {cap : Nat} {p : List (List Int)} (h : OwII w E R B C a cap p) (k : Below D w w') (hC : C ≤ D) : OwII w' E R B C a cap p := h.agr (agr_below k hC)
theorem OwII.rd {w : World} {E R B C : Nat} {a : Option Addr} {cap : Nat} {p : List (List Int)} (h : OwII w E R B C a cap p) : RdII w B C a p := by
  obtain ⟨ra, rc, h1, h2, _, _⟩ := h
  intro i hi
  rcases h1 with ⟨_, h0, _⟩ | ⟨g, F, e, g1, g2, hr, hl, _, hf⟩
  · omega
  · exact ⟨g, 0, ra i, rc i, e, g1, g2, by rw [Nat.zero_add, hr.cell (by omega), hf i hi], (h2 i hi).rd, (h2 i hi).len⟩

/-- A call that hands back new rows of numbers and turns nothing that was there. -/
def RetII (E R : Nat) (p : List (List Int)) (w : World) (e : Ending) (w' : World) : Prop :=
  ∃ a cap, e = .returned (.slice a p.length cap) ∧ OwII w' E R w.heap.size w'.heap.size a cap p ∧ Below w.heap.size w w'

/-- Block g is a new block of rows, of which the first k are in place, each in a block of its own from B on. -/
def PartII (w : World) (E R B g n : Nat) (p : List (List Int)) (k : Nat) : Prop :=
  ∃ (ra : Nat → Option Addr) (rc : Nat → Nat), w.rowIs g R n (fun j => if j < k then .slice (ra j) (p.getD j []).length (rc j) else .slice none 0 0) ∧
    (∀ j, j < k → OwI w E B w.heap.size (ra j) (rc j) (p.getD j [])) ∧ (∀ i j, i < j → j < k → Dis (ra i) (ra j))
theorem PartII.start {w : World} {E R B g n : Nat} {p : List (List Int)} (h : w.rowIs g R n (fun _ => .slice none 0 0)) : PartII w E R B g n p 0 :=
  ⟨fun _ => none, fun _ => 0, h.congr (fun i _ => by simp), fun j hj => by omega, fun i j _ hj => by omega⟩
theorem PartII.step {w w1 : World} {E R B g n : Nat} {p : List (List Int)} {k : Nat} {a' : Option Addr} {c' : Nat} {l : List Int} (h : PartII w E R B g n p k) (hb : Below w.heap.size w w1)
    (ho : OwI w1 E w.heap.size w1.heap.size a' c' l) (hl : l = p.getD k []) (hg : g < B) (hB : B ≤ w.heap.size) : PartII (w1.setCell ⟨g, k, none⟩ (.slice a' l.length c')) E R B g n p (k + 1) := by
  subst hl
  obtain ⟨ra, rc, h1, h2, h3⟩ := h
  have hgw := h1.lt
  refine ⟨fun j => if j = k then a' else ra j, fun j => if j = k then c' else rc j, ?_, ?_, ?_⟩
  · refine ((h1.of_block (hb.block g hgw)).set k _).congr fun j hj => ?_
    by_cases e : j = k
    · subst e; simp
    · simp only [if_neg e]
      by_cases hjk : j < k
      · rw [if_pos hjk, if_pos (by omega)]
      · rw [if_neg hjk, if_neg (by omega)]
  · intro j hj
    have hsz : (w1.setCell ⟨g, k, none⟩ (.slice a' (p.getD k []).length c')).heap.size = w1.heap.size := by simp
    by_cases e : j = k
    · subst e
      simp only [if_true]
      rw [hsz]
      exact (ho.agr ((Agr.refl _ _ _).set (by omega) _)).mono hB (Nat.le_refl _)
    · simp only [if_neg e]
      rw [hsz]
      exact ((h2 j (by omega)).agr ((agr_below hb (Nat.le_refl _)).set (by omega) _)).mono (Nat.le_refl _) hb.size
  · intro i j hij hj
    by_cases e : j = k
    · subst e
      simp only [if_neg (show i ≠ j by omega), if_true]
      exact (h2 i (by omega)).dis ho (Nat.le_refl _)
    · simp only [if_neg e, if_neg (show i ≠ k by omega)]
      exact h3 i j hij (by omega)
theorem PartII.done {w : World} {E R g n : Nat} {p : List (List Int)} (h : PartII w E R (g + 1) g n p p.length) (hn : n = p.length) (hm : n ≤ maxLen) : OwII w E R g w.heap.size (some ⟨g, 0, none⟩) n p := by
  subst hn
  obtain ⟨ra, rc, h1, h2, h3⟩ := h
  refine ⟨ra, rc, .inr ⟨g, _, rfl, Nat.le_refl _, h1.lt, h1, Nat.le_refl _, hm, fun i hi => by simp only [if_pos hi]⟩, fun i hi => (h2 i hi).mono (Nat.le_succ _) (Nat.le_refl _), h3, ?_⟩
  intro i hi x y hx hy
  cases hx
  rcases h2 i hi with ⟨e, _⟩ | ⟨g', f', e, b1, b2, _⟩
  · rw [e] at hy; cases hy
  · rw [e] at hy; cases hy
    show g ≠ g'; omega

end Go.Hyp
