/- Predicates on memory and plain lemmas that the walks of this seat use. The plain law of short streams: the shortest way to tell a stream of bits is one alone. No program in sight. -/
import Derived.WalkKit
import Derived.WalkSpells
import Derived.WalkLawsBesides
import Derived.Lib.Hide
import Derived.Deep.OwnRows
import Derived.Deep.DeepFit
import Derived.Deep.Draws
import Derived.Deep.AppendLies
import Derived.Maps.AppendAt
namespace Go.RowKit
theorem Below.blk {B b : Nat} {w w' : World} {o : Obj} (h : Below B w w') (hb : w.heap[b]? = some o) (hlt : b < B) : w'.heap[b]? = some o := (h.block b hlt).trans hb
end Go.RowKit
namespace Go.Hyp
open Go.RowKit Go.Deep

/-! ### Reading: slices of numbers -/

/-- The cells of a slice of numbers, in blocks from B on and below C. -/
def RdI (w : World) (B C : Nat) (a : Option Addr) (l : List Int) : Prop :=
  ∀ i, i < l.length → ∃ b off, a = some ⟨b, off, none⟩ ∧ B ≤ b ∧ b < C ∧ w.cell? ⟨b, off + i, none⟩ = some (.int .i64 (l.getD i 0))

/-- Blocks from B on and below C are in w' as they are in w. -/
def Agr (B C : Nat) (w w' : World) : Prop := ∀ b, B ≤ b → b < C → w'.heap[b]? = w.heap[b]?

theorem Agr.refl (B C : Nat) (w : World) : Agr B C w w := fun _ _ _ => rfl
theorem Agr.trans {B C : Nat} {w w1 w2 : World} (h : Agr B C w w1) (k : Agr B C w1 w2) : Agr B C w w2 := fun b h1 h2 => (k b h1 h2).trans (h b h1 h2)
theorem Agr.mono {B C B' C' : Nat} {w w' : World} (h : Agr B C w w') (h1 : B ≤ B') (h2 : C' ≤ C) : Agr B' C' w w' := fun b a1 a2 => h b (by omega) (by omega)
theorem Agr.set {B C k i : Nat} {w w' : World} (h : Agr B C w w') (hk : k < B ∨ C ≤ k) (v : Value) : Agr B C w (w'.setCell ⟨k, i, none⟩ v) :=
  fun b h1 h2 => (Below.heap_setCell _ _ _ _ (by show b ≠ k; omega)).trans (h b h1 h2)
theorem Agr.alloc {B C : Nat} {w w' : World} (h : Agr B C w w') (hC : C ≤ w'.heap.size) (o : Obj) : Agr B C w (w'.alloc o) :=
  fun b h1 h2 => (Below.heap_alloc _ _ _ (by omega)).trans (h b h1 h2)
theorem Agr.drew {B C : Nat} {w w' : World} (h : Agr B C w w') : Agr B C w w'.drew := h
theorem Agr.below {B C D : Nat} {w w1 w2 : World} (h : Agr B C w w1) (k : Below D w1 w2) (hC : C ≤ D) : Agr B C w w2 := fun b h1 h2 => (k.block b (by omega)).trans (h b h1 h2)
theorem agr_below {B C D : Nat} {w w' : World} (h : Below D w w') (hC : C ≤ D) : Agr B C w w' := fun b _ h2 => h.block b (by omega)

theorem RdI.agr {w w' : World} {B C : Nat} {a : Option Addr} {l : List Int} (h : RdI w B C a l) (k : Agr B C w w') : RdI w' B C a l := by
  intro i hi
  obtain ⟨b, off, e, h1, h2, hc⟩ := h i hi
  exact ⟨b, off, e, h1, h2, by rw [World.cell?_of_block (w := w) (k b h1 h2)]; exact hc⟩
theorem RdI.mono {w : World} {B C B' C' : Nat} {a : Option Addr} {l : List Int} (h : RdI w B C a l) (h1 : B' ≤ B) (h2 : C ≤ C') : RdI w B' C' a l := by
  intro i hi
  obtain ⟨b, off, e, g1, g2, hc⟩ := h i hi
  exact ⟨b, off, e, by omega, by omega, hc⟩
theorem RdI.below {w w' : World} {B C D : Nat} {a : Option Addr} {l : List Int} (h : RdI w B C a l) (k : Below D w w') (hC : C ≤ D) : RdI w' B C a l := h.agr (agr_below k hC)
theorem RdI.at {w : World} {B C : Nat} {a : Option Addr} {l : List Int} (h : RdI w B C a l) (i : Nat) (hi : i < l.length) :
    ∃ b off, a = some ⟨b, off, none⟩ ∧ B ≤ b ∧ b < C ∧ w.cell? ⟨b, off + i, none⟩ = some (.int .i64 l[i]) := by
  obtain ⟨b, off, e, h1, h2, hc⟩ := h i hi
  exact ⟨b, off, e, h1, h2, by rw [hc]; simp [List.getD, hi]⟩

/-! ### Owning: a slice of numbers at the head of a block of its own -/

/-- The slice stands at the head of a block of its own, from B on and below C; or it is nil. -/
def OwI (w : World) (E B C : Nat) (a : Option Addr) (cap : Nat) (l : List Int) : Prop :=
  (a = none ∧ l = [] ∧ cap = 0) ∨
  ∃ g f, a = some ⟨g, 0, none⟩ ∧ B ≤ g ∧ g < C ∧ w.rowIs g E cap f ∧ l.length ≤ cap ∧ cap ≤ maxLen ∧ ∀ i, i < l.length → f i = .int .i64 (l.getD i 0)

theorem OwI.rd {w : World} {E B C : Nat} {a : Option Addr} {cap : Nat} {l : List Int} (h : OwI w E B C a cap l) : RdI w B C a l := by
  rcases h with ⟨_, rfl, _⟩ | ⟨g, f, e, h1, h2, hr, hl, _, hf⟩
  · intro i hi; simp at hi
  · intro i hi
    exact ⟨g, 0, e, h1, h2, by rw [Nat.zero_add, hr.cell (by omega), hf i hi]⟩
theorem OwI.agr {w w' : World} {E B C : Nat} {a : Option Addr} {cap : Nat} {l : List Int} (h : OwI w E B C a cap l) (k : Agr B C w w') : OwI w' E B C a cap l := by
  rcases h with h | ⟨g, f, e, h1, h2, hr, r⟩
  · exact .inl h
  · exact .inr ⟨g, f, e, h1, h2, hr.of_block (k g h1 h2), r⟩
theorem OwI.mono {w : World} {E B C B' C' : Nat} {a : Option Addr} {cap : Nat} {l : List Int} (h : OwI w E B C a cap l) (h1 : B' ≤ B) (h2 : C ≤ C') : OwI w E B' C' a cap l := by
  rcases h with h | ⟨g, f, e, g1, g2, r⟩
  · exact .inl h
  · exact .inr ⟨g, f, e, by omega, by omega, r⟩
theorem OwI.below {w w' : World} {E B C D : Nat} {a : Option Addr} {cap : Nat} {l : List Int} (h : OwI w E B C a cap l) (k : Below D w w') (hC : C ≤ D) : OwI w' E B C a cap l := h.agr (agr_below k hC)
theorem OwI.len {w : World} {E B C : Nat} {a : Option Addr} {cap : Nat} {l : List Int} (h : OwI w E B C a cap l) : l.length ≤ maxLen := by
  rcases h with ⟨_, rfl, _⟩ | ⟨g, f, e, h1, h2, hr, hl, hm, hf⟩
  · simp
  · omega

/-- A call that hands back a new slice of numbers and turns nothing that was there. -/
def RetI (E : Nat) (l : List Int) (w : World) (e : Ending) (w' : World) : Prop :=
  ∃ a cap, e = .returned (.slice a l.length cap) ∧ OwI w' E w.heap.size w'.heap.size a cap l ∧ Below w.heap.size w w'

/-- Two slices lie in two blocks (or one is nil). -/
def Dis (a a' : Option Addr) : Prop := ∀ x y, a = some x → a' = some y → x.block ≠ y.block
theorem OwI.dis {w w' : World} {E B C E' B' C' : Nat} {a a' : Option Addr} {cap cap' : Nat} {l l' : List Int} (h : OwI w E B C a cap l) (h' : OwI w' E' B' C' a' cap' l') (hd : C ≤ B') : Dis a a' := by
  intro x y hx hy
  rcases h with ⟨rfl, _⟩ | ⟨g, f, rfl, h1, h2, _⟩
  · simp at hx
  · rcases h' with ⟨rfl, _⟩ | ⟨g', f', rfl, h1', h2', _⟩
    · simp at hy
    · cases hx; cases hy; show g ≠ g'; omega

/-- A call that hands back a new pair of slices of numbers and turns nothing that was there. -/
def RetS (E : Nat) (l1 l2 : List Int) (w : World) (e : Ending) (w' : World) : Prop :=
  ∃ a1 c1 a2 c2, e = .returned (.agg #[.slice a1 l1.length c1, .slice a2 l2.length c2]) ∧ OwI w' E w.heap.size w'.heap.size a1 c1 l1 ∧ OwI w' E w.heap.size w'.heap.size a2 c2 l2 ∧ Dis a1 a2 ∧ Below w.heap.size w w'

/-! ### Worlds -/

theorem below_drewN {B : Nat} {a w : World} (h : Below B a w) (q : Nat) : Below B a (w.drewN q) := ⟨h.os, h.tape, h.output, h.size, h.block⟩
theorem below_trans {w w1 w2 : World} (h : Below w.heap.size w w1) (k : Below w1.heap.size w1 w2) : Below w.heap.size w w2 := h.trans (k.mono h.size)
theorem below_alloc (w : World) (o : Obj) : Below w.heap.size w (w.alloc o) := (Below.refl _ _).alloc (Nat.le_refl _) o
theorem undrew {w w' : World} (h : Below w.drew.heap.size w.drew w') : Below w.heap.size w w' := ⟨h.os, h.tape, h.output, h.size, h.block⟩
theorem bcell {W w1 : World} (hb : Below W.heap.size W w1) : (∀ b o, b < W.heap.size → w1.cell? ⟨b, o, none⟩ = W.cell? ⟨b, o, none⟩) ∧ (∀ b o, b < W.heap.size → w1.frozen? ⟨b, o, none⟩ = W.frozen? ⟨b, o, none⟩) :=
  ⟨fun b o h => hb.cell (p := ⟨b, o, none⟩) h, fun b o h => hb.frozen (p := ⟨b, o, none⟩) h⟩

/-- w' is w but for draws. -/
def Qt (w w' : World) : Prop := ∃ n, w' = w.drewN n
theorem Qt.refl (w : World) : Qt w w := ⟨0, rfl⟩
theorem Qt.trans {w w1 w2 : World} (h : Qt w w1) (k : Qt w1 w2) : Qt w w2 := by
  obtain ⟨n, rfl⟩ := h; obtain ⟨m, rfl⟩ := k; exact ⟨n + m, World.drewN_drewN _ _ _⟩
theorem Qt.n {w w1 : World} (h : Qt w w1) (n : Nat) : Qt w (w1.drewN n) := h.trans ⟨n, rfl⟩
theorem Qt.agr {B C : Nat} {w w' : World} (h : Qt w w') : Agr B C w w' := by obtain ⟨n, rfl⟩ := h; exact fun _ _ _ => rfl
theorem Qt.below {B : Nat} {w w' : World} (h : Qt w w') : Below B w w' := by obtain ⟨n, rfl⟩ := h; exact below_drewN (Below.refl _ _) n
theorem quietQ {P : Program} {f : FuncId} {args : Array Value} {w : World} {n : Nat} {v : Value}
    (h : Calls P f args (w.drewN n) fun e w' => e = .returned v ∧ Qt (w.drewN n) w') : Calls P f args (w.drewN n) fun e w'' => e = .returned v ∧ ∃ m, w'' = w.drewN m :=
  h.mono fun _ _ ⟨he, m, hm⟩ => ⟨he, n + m, by rw [hm, World.drewN_drewN]⟩

/-! ### A block that is known whole -/
theorem heap_alloc (w : World) (o : Obj) (k : Nat) : (w.alloc o).heap[k]? = if k = w.heap.size then some o else w.heap[k]? := by
  show (w.heap.push o)[k]? = _
  rw [Array.getElem?_push]
theorem blk_new {w : World} {o : Obj} {k : Nat} (hk : k = w.heap.size) : (w.alloc o).heap[k]? = some o := by rw [heap_alloc, if_pos hk]
theorem blk_old {w : World} {o : Obj} {k : Nat} {x : Obj} (h : w.heap[k]? = some x) : (w.alloc o).heap[k]? = some x := by
  rw [heap_alloc, if_neg (by have := lt_of_block h; omega), h]
theorem alloc1 (w : World) (o1 : Obj) : (w.alloc o1).heap[w.heap.size]? = some o1 := blk_new rfl
theorem alloc2 (w : World) (o1 o2 : Obj) : ((w.alloc o1).alloc o2).heap[w.heap.size]? = some o1 ∧ ((w.alloc o1).alloc o2).heap[w.heap.size + 1]? = some o2 :=
  ⟨blk_old (blk_new rfl), blk_new (by simp)⟩
theorem alloc3 (w : World) (o1 o2 o3 : Obj) : (((w.alloc o1).alloc o2).alloc o3).heap[w.heap.size]? = some o1 ∧ (((w.alloc o1).alloc o2).alloc o3).heap[w.heap.size + 1]? = some o2 ∧
    (((w.alloc o1).alloc o2).alloc o3).heap[w.heap.size + 1 + 1]? = some o3 :=
  ⟨blk_old (alloc2 w _ _).1, blk_old (alloc2 w _ _).2, blk_new (by simp)⟩
theorem blk_cell {w : World} {b o : Nat} {c : Array Value} {T : TypeId} {f : Nat × Nat} {v : Value} (h : w.heap[b]? = some (.cells c T f)) (hv : c[o]? = some v) : w.cell? ⟨b, o, none⟩ = some v := by
  simp [World.cell?, h, hv]
theorem blk_free {w : World} {b : Nat} {c : Array Value} {T : TypeId} (h : w.heap[b]? = some (.cells c T (0, 0))) (o : Nat) : w.frozen? ⟨b, o, none⟩ = false := by
  simp [World.frozen?, h]
theorem blk_lt {w : World} {b : Nat} {o : Obj} (h : w.heap[b]? = some o) : b < w.heap.size := lt_of_block h
theorem blk_set {w : World} {b i : Nat} {c : Array Value} {T : TypeId} {f : Nat × Nat} (v : Value) (h : w.heap[b]? = some (.cells c T f)) :
    (w.setCell ⟨b, i, none⟩ v).heap[b]? = some (.cells (c.setIfInBounds i v) T f) := by
  simp [World.setCell, Array.getElem?_modify, h]
theorem blk_set_other {w : World} {b i k : Nat} {o : Option Obj} (v : Value) (h : w.heap[b]? = o) (hk : b ≠ k) : (w.setCell ⟨k, i, none⟩ v).heap[b]? = o := by
  rw [Below.heap_setCell _ _ _ _ hk, h]
theorem blk1 {w : World} {b : Nat} {v0 : Value} {T : TypeId} (h : w.heap[b]? = some (.cells #[v0] T (0, 0))) :
    w.cell? ⟨b, 0, none⟩ = some v0 ∧ w.frozen? ⟨b, 0, none⟩ = false := ⟨blk_cell h rfl, blk_free h 0⟩
theorem blk2 {w : World} {b : Nat} {v0 v1 : Value} {T : TypeId} (h : w.heap[b]? = some (.cells #[v0, v1] T (0, 0))) :
    w.cell? ⟨b, 0, none⟩ = some v0 ∧ w.cell? ⟨b, 1, none⟩ = some v1 ∧ w.frozen? ⟨b, 0, none⟩ = false ∧ w.frozen? ⟨b, 1, none⟩ = false := ⟨blk_cell h rfl, blk_cell h rfl, blk_free h 0, blk_free h 1⟩

/-! ### Endings -/
theorem int_eq {k : IntKind} {a b : Int} (h : a = b) : Value.int k a = .int k b := by rw [h]
theorem ret_int {k : IntKind} {a b : Int} (h : a = b) : Ending.returned (.int k a) = .returned (.int k b) := by rw [h]
theorem ret_bool {a b : Bool} (h : a = b) : Ending.returned (.bool a) = .returned (.bool b) := by rw [h]

/-! ### Small plain functions and their laws -/

theorem getD_lt {l : List Int} {k : Nat} (h : k < l.length) : l.getD k 0 = l[k] := by simp [List.getD, h]

/-- What a slice holds of which the first k numbers are copied. -/
def upTo (l : List Int) (k : Nat) : Nat → Value := fun j => if j < k then .int .i64 (l.getD j 0) else .int .i64 0
theorem upTo_succ {w : World} {b E n k : Nat} {l : List Int} (h : w.rowIs b E n (upTo l k)) : (w.setCell ⟨b, k, none⟩ (.int .i64 (l.getD k 0))).rowIs b E n (upTo l (k + 1)) := by
  refine (h.set k _).congr (fun j hj => ?_)
  unfold upTo
  by_cases e : j = k
  · subst e; simp
  · rw [if_neg e]
    by_cases hjk : j < k
    · rw [if_pos hjk, if_pos (by omega)]
    · rw [if_neg hjk, if_neg (by omega)]

theorem take_eq_succ {α : Type} {l l' : List α} {k : Nat} (h : k < l.length) (h' : k < l'.length) (e : l.take k = l'.take k) (x : l[k] = l'[k]) : l.take (k + 1) = l'.take (k + 1) := by
  rw [List.take_succ_eq_append_getElem h, List.take_succ_eq_append_getElem h', e, x]

/-- All numbers are bits. -/
def bitB (x : Int) : Bool := x == 0 || x == 1
theorem bitB_in (n : Int) : (decide (0 ≤ n) && decide (n ≤ 1)) = bitB n := by
  unfold bitB
  by_cases h0 : n = 0
  · subst h0; rfl
  · by_cases h1 : n = 1
    · subst h1; rfl
    · rw [Bool.eq_iff_iff]; simp [h0, h1]; omega
def bitsB (l : List Int) : Bool := l.all bitB
theorem bitsB_succ (l : List Int) (k : Nat) (h : k < l.length) : bitsB (l.take (k + 1)) = (bitsB (l.take k) && bitB l[k]) := by
  unfold bitsB; rw [List.take_succ_eq_append_getElem h, List.all_append]; simp
theorem bitsB_no (l : List Int) (k : Nat) (h : k < l.length) (hb : bitB l[k] = false) : bitsB l = false := by
  unfold bitsB; rw [List.all_eq_false]; exact ⟨l[k], List.getElem_mem h, by simp [hb]⟩
/-- A stream. -/
def streamB (l1 l2 : List Int) : Bool := bitsB l1 && bitsB l2 && decide (1 ≤ l2.length) && decide (l1.length + l2.length ≤ 12)

/-- The bit of a stream at a place. -/
def bitOf (l1 l2 : List Int) (k : Nat) : Int := if k < l1.length then l1.getD k 0 else l2.getD ((k - l1.length) % l2.length) 0
def bitAtI (l1 l2 : List Int) (n : Int) : Int := if (streamB l1 l2 && (decide (0 ≤ n) && decide (n ≤ 999))) = true then bitOf l1 l2 n.toNat else -1
theorem streamB_pos {l1 l2 : List Int} (h : streamB l1 l2 = true) : 1 ≤ l2.length := by
  unfold streamB at h; simp at h; omega

theorem bit_get {l : List Int} (h : bitsB l = true) (i : Nat) : l.getD i 0 = 0 ∨ l.getD i 0 = 1 := by
  by_cases hi : i < l.length
  · unfold bitsB at h
    rw [List.all_eq_true] at h
    have := h l[i] (List.getElem_mem hi)
    have e : l.getD i 0 = l[i] := by simp [List.getD, hi]
    rw [e]
    unfold bitB at this
    simpa using this
  · left; simp [List.getD, Nat.not_lt.1 hi]
theorem bitOf_bit {l1 l2 : List Int} (h : streamB l1 l2 = true) (k : Nat) : 0 ≤ bitOf l1 l2 k ∧ bitOf l1 l2 k ≤ 1 := by
  unfold streamB at h
  simp only [Bool.and_eq_true] at h
  unfold bitOf
  split
  · rcases bit_get h.1.1.1 k with e | e <;> rw [e] <;> omega
  · rcases bit_get h.1.1.2 ((k - l1.length) % l2.length) with e | e <;> rw [e] <;> omega
theorem bitAtI_cases (l1 l2 : List Int) (n : Int) : bitAtI l1 l2 n = -1 ∨ ∃ k : Nat, n = k ∧ k ≤ 999 ∧ streamB l1 l2 = true ∧ bitAtI l1 l2 k = bitOf l1 l2 k ∧ 0 ≤ bitOf l1 l2 k ∧ bitOf l1 l2 k ≤ 1 := by
  by_cases h : (streamB l1 l2 && (decide (0 ≤ n) && decide (n ≤ 999))) = true
  · right
    have h' := h
    simp only [Bool.and_eq_true, decide_eq_true_eq] at h'
    obtain ⟨k, rfl⟩ := Int.eq_ofNat_of_zero_le h'.2.1
    exact ⟨k, rfl, by omega, h'.1, by unfold bitAtI; rw [if_pos h]; rfl, bitOf_bit h'.1 k⟩
  · left; unfold bitAtI; rw [if_neg h]
theorem bitAtI_again {l1 l2 : List Int} {k : Nat} {x : Int} (h : streamB l1 l2 = true) (hx : bitOf l1 l2 k = x) (h1 : ¬ k < l1.length) (h2 : k + l2.length ≤ 999) : bitAtI l1 l2 ((k : Int) + (l2.length : Int)) = x := by
  unfold bitAtI
  rw [if_pos (by simp only [Bool.and_eq_true, decide_eq_true_eq]; exact ⟨h, by omega, by omega⟩), ← hx]
  have e : ((k : Int) + (l2.length : Int)).toNat = k + l2.length := by omega
  rw [e]
  unfold bitOf
  rw [if_neg h1, if_neg (by omega), show k + l2.length - l1.length = k - l1.length + l2.length by omega, Nat.add_mod_right]

/-- The law's counter of what came in. -/
def szI (k : Int) (n : Nat) : Int := if k < n then -1 else k - n
theorem szI_cases (k : Int) (n : Nat) : (k < n ∧ szI k n = -1) ∨ (n ≤ k ∧ szI k n = k - n) := by
  unfold szI
  by_cases h : k < n
  · exact .inl ⟨h, by rw [if_pos h]⟩
  · exact .inr ⟨by omega, by rw [if_neg h]⟩

/-! ### A slice of bytes, and the laws' reader of it -/

/-- The cells of a slice of bytes, in blocks below C. -/
def RdB (w : World) (C : Nat) (a : Option Addr) (l : List Int) : Prop :=
  ∀ i, i < l.length → ∃ b off, a = some ⟨b, off, none⟩ ∧ b < C ∧ w.cell? ⟨b, off + i, none⟩ = some (.int .u8 (l.getD i 0)) ∧ 0 ≤ l.getD i 0 ∧ l.getD i 0 ≤ 255
theorem RdB.at {w : World} {C : Nat} {a : Option Addr} {l : List Int} (h : RdB w C a l) (i : Nat) (hi : i < l.length) :
    ∃ b off, a = some ⟨b, off, none⟩ ∧ b < C ∧ w.cell? ⟨b, off + i, none⟩ = some (.int .u8 l[i]) ∧ 0 ≤ l[i] ∧ l[i] ≤ 255 := by
  obtain ⟨b, off, e, h1, hc, h2, h3⟩ := h i hi
  have eg : l.getD i 0 = l[i] := by simp [List.getD, hi]
  rw [eg] at hc h2 h3
  exact ⟨b, off, e, h1, hc, h2, h3⟩
theorem RdB.agr {w w' : World} {C : Nat} {a : Option Addr} {l : List Int} (h : RdB w C a l) (k : Agr 0 C w w') : RdB w' C a l := by
  intro i hi
  obtain ⟨b, off, e, h1, hc, r⟩ := h i hi
  exact ⟨b, off, e, h1, by rw [World.cell?_of_block (w := w) (k b (Nat.zero_le _) h1)]; exact hc, r⟩
theorem RdB.agr2 {w w' : World} {C D : Nat} {a : Option Addr} {l : List Int} (h : RdB w C a l) (k : Below D w w') (hD : C ≤ D := by first | omega | simp) (hC : C ≤ w'.heap.size := by first | omega | simp) : RdB w' w'.heap.size a l := by
  intro i hi
  obtain ⟨b, off, e, h1, hc, r⟩ := h i hi
  exact ⟨b, off, e, by omega, by rw [World.cell?_of_block (w := w) (k.block b (by omega))]; exact hc, r⟩
theorem RdB.mono {w : World} {C C' : Nat} {a : Option Addr} {l : List Int} (h : RdB w C a l) (hC : C ≤ C') : RdB w C' a l := by
  intro i hi
  obtain ⟨b, off, e, h1, r⟩ := h i hi
  exact ⟨b, off, e, by omega, r⟩
theorem RdB.take {w : World} {C : Nat} {a : Option Addr} {l : List Int} (h : RdB w C a l) (n : Nat) : RdB w C a (l.take n) := by
  intro i hi
  have hi' : i < n ∧ i < l.length := by rw [List.length_take] at hi; omega
  have e : (l.take n).getD i 0 = l.getD i 0 := by simp [List.getD, hi'.1]
  rw [e]
  exact h i hi'.2
/-- What a pick leaves: a number below n (0 where n is below 1), and the reader one further. -/
def PickPost (rb p : Nat) (n : Int) (w : World) (e : Ending) (w' : World) : Prop :=
  ∃ v : Int, e = .returned (.int .i64 v) ∧ 0 ≤ v ∧ (v < n ∨ (n < 1 ∧ v = 0)) ∧ ∃ q, w' = (w.setCell ⟨rb, 1, none⟩ (.int .i64 ((p : Int) + 1))).drewN q

/-! ### Rows of numbers -/

/-- The cells of a slice of slices of numbers, all in blocks from B on and below C. -/
def RdII (w : World) (B C : Nat) (a : Option Addr) (p : List (List Int)) : Prop :=
  ∀ i, i < p.length → ∃ b off a' cap, a = some ⟨b, off, none⟩ ∧ B ≤ b ∧ b < C ∧ w.cell? ⟨b, off + i, none⟩ = some (.slice a' (p.getD i []).length cap) ∧
    RdI w B C a' (p.getD i []) ∧ (p.getD i []).length ≤ maxLen
theorem RdII.agr {w w' : World} {B C : Nat} {a : Option Addr} {p : List (List Int)} (h : RdII w B C a p) (k : Agr B C w w') : RdII w' B C a p := by
  intro i hi
  obtain ⟨b, off, a', cap, e, h1, h2, hc, hr, hl⟩ := h i hi
  exact ⟨b, off, a', cap, e, h1, h2, by rw [World.cell?_of_block (w := w) (k b h1 h2)]; exact hc, hr.agr k, hl⟩
theorem RdII.mono {w : World} {B C B' C' : Nat} {a : Option Addr} {p : List (List Int)} (h : RdII w B C a p) (h1 : B' ≤ B) (h2 : C ≤ C') : RdII w B' C' a p := by
  intro i hi
  obtain ⟨b, off, a', cap, e, g1, g2, hc, hr, hl⟩ := h i hi
  exact ⟨b, off, a', cap, e, by omega, by omega, hc, hr.mono h1 h2, hl⟩
theorem RdII.below {w w' : World} {B C D : Nat} {a : Option Addr} {p : List (List Int)} (h : RdII w B C a p) (k : Below D w w') (hC : C ≤ D) : RdII w' B C a p := h.agr (agr_below k hC)
theorem RdII.at {w : World} {B C : Nat} {a : Option Addr} {p : List (List Int)} (h : RdII w B C a p) (i : Nat) (hi : i < p.length) :
    ∃ b off a' cap, a = some ⟨b, off, none⟩ ∧ B ≤ b ∧ b < C ∧ w.cell? ⟨b, off + i, none⟩ = some (.slice a' p[i].length cap) ∧ RdI w B C a' p[i] ∧ p[i].length ≤ maxLen := by
  obtain ⟨b, off, a', cap, e, h1, h2, hc, hr, hl⟩ := h i hi
  have eg : p.getD i [] = p[i] := by simp [List.getD, hi]
  rw [eg] at hc hr hl
  exact ⟨b, off, a', cap, e, h1, h2, hc, hr, hl⟩

/-- How many numbers rows hold together. -/
def lens (p : List (List Int)) : Nat := (p.map List.length).sum
theorem lens_succ (p : List (List Int)) (k : Nat) (h : k < p.length) : lens (p.take (k + 1)) = lens (p.take k) + p[k].length := by
  unfold lens; rw [List.take_succ_eq_append_getElem h, List.map_append, List.sum_append]; simp
theorem lens_le (p : List (List Int)) (k : Nat) : lens (p.take k) ≤ lens p := by
  have e : lens p = lens (p.take k) + lens (p.drop k) := by
    unfold lens; rw [← List.sum_append, ← List.map_append, List.take_append_drop]
  omega
theorem lens_at (p : List (List Int)) (k : Nat) (h : k < p.length) : p[k].length ≤ lens p := by
  have := lens_succ p k h; have := lens_le p (k + 1); omega
/-- The law's counter over rows. -/
def szII (k : Int) (p : List (List Int)) : Int := if k < p.length + lens p then -1 else k - (p.length + lens p)
theorem szII_cases (k : Int) (p : List (List Int)) : (k < p.length + lens p ∧ szII k p = -1) ∨ ((p.length + lens p : Int) ≤ k ∧ szII k p = k - (p.length + lens p)) := by
  unfold szII
  by_cases h : k < p.length + lens p
  · exact .inl ⟨h, by rw [if_pos h]⟩
  · exact .inr ⟨by omega, by rw [if_neg h]⟩

/-- All rows are of so many bits. -/
def rowsB (n : Nat) (p : List (List Int)) : Bool := p.all fun l => bitsB l && decide (l.length = n)
theorem rowsB_succ (n : Nat) (p : List (List Int)) (k : Nat) (h : k < p.length) : rowsB n (p.take (k + 1)) = (rowsB n (p.take k) && (bitsB p[k] && decide (p[k].length = n))) := by
  unfold rowsB; rw [List.take_succ_eq_append_getElem h, List.all_append]; simp
theorem rowsB_no (n : Nat) (p : List (List Int)) (k : Nat) (h : k < p.length) (hb : (bitsB p[k] && decide (p[k].length = n)) = false) : rowsB n p = false := by
  unfold rowsB; rw [List.all_eq_false]; exact ⟨p[k], List.getElem_mem h, by simpa using hb⟩
/-- A picture; a node of one. -/
def picB (p : List (List Int)) : Bool := decide (1 ≤ p.length) && decide (p.length ≤ 5) && rowsB p.length p
def nodeB (p : List (List Int)) (n : Int) : Bool := picB p && decide (0 ≤ n) && decide (n < p.length)

/-! ### Owning rows -/

/-- The slice stands at the head of a block of its own that holds f. -/
def OwV (w : World) (E B C : Nat) (a : Option Addr) (cap n : Nat) (f : Nat → Value) : Prop :=
  (a = none ∧ n = 0 ∧ cap = 0) ∨ ∃ g F, a = some ⟨g, 0, none⟩ ∧ B ≤ g ∧ g < C ∧ w.rowIs g E cap F ∧ n ≤ cap ∧ cap ≤ maxLen ∧ ∀ i, i < n → F i = f i
/-- Rows of numbers, each in a block of its own. E: the numbers' type, R: the rows'. -/
def OwII (w : World) (E R B C : Nat) (a : Option Addr) (cap : Nat) (p : List (List Int)) : Prop :=
  ∃ (ra : Nat → Option Addr) (rc : Nat → Nat), OwV w R B C a cap p.length (fun i => .slice (ra i) (p.getD i []).length (rc i)) ∧
    (∀ i, i < p.length → OwI w E B C (ra i) (rc i) (p.getD i [])) ∧ (∀ i j, i < j → j < p.length → Dis (ra i) (ra j)) ∧ (∀ i, i < p.length → Dis a (ra i))

theorem OwV.agr {w w' : World} {E B C : Nat} {a : Option Addr} {cap n : Nat} {f : Nat → Value} (h : OwV w E B C a cap n f) (k : Agr B C w w') : OwV w' E B C a cap n f := by
  rcases h with h | ⟨g, F, e, h1, h2, hr, r⟩
  · exact .inl h
  · exact .inr ⟨g, F, e, h1, h2, hr.of_block (k g h1 h2), r⟩
theorem OwV.mono {w : World} {E B C B' C' : Nat} {a : Option Addr} {cap n : Nat} {f : Nat → Value} (h : OwV w E B C a cap n f) (h1 : B' ≤ B) (h2 : C ≤ C') : OwV w E B' C' a cap n f := by
  rcases h with h | ⟨g, F, e, g1, g2, r⟩
  · exact .inl h
  · exact .inr ⟨g, F, e, by omega, by omega, r⟩
theorem OwII.agr {w w' : World} {E R B C : Nat} {a : Option Addr} {cap : Nat} {p : List (List Int)} (h : OwII w E R B C a cap p) (k : Agr B C w w') : OwII w' E R B C a cap p := by
  obtain ⟨ra, rc, h1, h2, h3⟩ := h
  exact ⟨ra, rc, h1.agr k, fun i hi => (h2 i hi).agr k, h3⟩
theorem OwII.mono {w : World} {E R B C B' C' : Nat} {a : Option Addr} {cap : Nat} {p : List (List Int)} (h : OwII w E R B C a cap p) (h1 : B' ≤ B) (h2 : C ≤ C') : OwII w E R B' C' a cap p := by
  obtain ⟨ra, rc, g1, g2, g3⟩ := h
  exact ⟨ra, rc, g1.mono h1 h2, fun i hi => (g2 i hi).mono h1 h2, g3⟩
theorem OwII.below {w w' : World} {E R B C D : Nat} {a : Option Addr} {cap : Nat} {p : List (List Int)} (h : OwII w E R B C a cap p) (k : Below D w w') (hC : C ≤ D) : OwII w' E R B C a cap p := h.agr (agr_below k hC)
theorem OwII.rd {w : World} {E R B C : Nat} {a : Option Addr} {cap : Nat} {p : List (List Int)} (h : OwII w E R B C a cap p) : RdII w B C a p := by
  obtain ⟨ra, rc, h1, h2, _, _⟩ := h
  intro i hi
  rcases h1 with ⟨_, h0, _⟩ | ⟨g, F, e, g1, g2, hr, hl, _, hf⟩
  · omega
  · exact ⟨g, 0, ra i, rc i, e, g1, g2, by rw [Nat.zero_add, hr.cell (by omega), hf i hi], (h2 i hi).rd, (h2 i hi).len⟩

/-- A call that hands back new rows of numbers and turns nothing that was there. -/
def RetII (E R : Nat) (p : List (List Int)) (w : World) (e : Ending) (w' : World) : Prop :=
  ∃ a cap, e = .returned (.slice a p.length cap) ∧ OwII w' E R w.heap.size w'.heap.size a cap p ∧ Below w.heap.size w w'

/-- Block g is a new block of rows, of which the first k are in place, each in a block of its own from B on. -/
def PartII (w : World) (E R B g n : Nat) (p : List (List Int)) (k : Nat) : Prop :=
  ∃ (ra : Nat → Option Addr) (rc : Nat → Nat), w.rowIs g R n (fun j => if j < k then .slice (ra j) (p.getD j []).length (rc j) else .slice none 0 0) ∧
    (∀ j, j < k → OwI w E B w.heap.size (ra j) (rc j) (p.getD j [])) ∧ (∀ i j, i < j → j < k → Dis (ra i) (ra j))
theorem PartII.start {w : World} {E R B g n : Nat} {p : List (List Int)} (h : w.rowIs g R n (fun _ => .slice none 0 0)) : PartII w E R B g n p 0 :=
  ⟨fun _ => none, fun _ => 0, h.congr (fun i _ => by simp), fun j hj => by omega, fun i j _ hj => by omega⟩
theorem PartII.step {w w1 : World} {E R B g n : Nat} {p : List (List Int)} {k : Nat} {a' : Option Addr} {c' : Nat} {l : List Int} (h : PartII w E R B g n p k) (hb : Below w.heap.size w w1)
    (ho : OwI w1 E w.heap.size w1.heap.size a' c' l) (hl : l = p.getD k []) (hg : g < B) (hB : B ≤ w.heap.size) : PartII (w1.setCell ⟨g, k, none⟩ (.slice a' l.length c')) E R B g n p (k + 1) := by
  subst hl
  obtain ⟨ra, rc, h1, h2, h3⟩ := h
  have hgw := h1.lt
  refine ⟨fun j => if j = k then a' else ra j, fun j => if j = k then c' else rc j, ?_, ?_, ?_⟩
  · refine ((h1.of_block (hb.block g hgw)).set k _).congr fun j hj => ?_
    by_cases e : j = k
    · subst e; simp
    · simp only [if_neg e]
      by_cases hjk : j < k
      · rw [if_pos hjk, if_pos (by omega)]
      · rw [if_neg hjk, if_neg (by omega)]
  · intro j hj
    have hsz : (w1.setCell ⟨g, k, none⟩ (.slice a' (p.getD k []).length c')).heap.size = w1.heap.size := by simp
    by_cases e : j = k
    · subst e
      simp only [if_true]
      rw [hsz]
      exact (ho.agr ((Agr.refl _ _ _).set (by omega) _)).mono hB (Nat.le_refl _)
    · simp only [if_neg e]
      rw [hsz]
      exact ((h2 j (by omega)).agr ((agr_below hb (Nat.le_refl _)).set (by omega) _)).mono (Nat.le_refl _) hb.size
  · intro i j hij hj
    by_cases e : j = k
    · subst e
      simp only [if_neg (show i ≠ j by omega), if_true]
      exact (h2 i (by omega)).dis ho (Nat.le_refl _)
    · simp only [if_neg e, if_neg (show i ≠ k by omega)]
      exact h3 i j hij (by omega)
theorem PartII.done {w : World} {E R g n : Nat} {p : List (List Int)} (h : PartII w E R (g + 1) g n p p.length) (hn : n = p.length) (hm : n ≤ maxLen) : OwII w E R g w.heap.size (some ⟨g, 0, none⟩) n p := by
  subst hn
  obtain ⟨ra, rc, h1, h2, h3⟩ := h
  refine ⟨ra, rc, .inr ⟨g, _, rfl, Nat.le_refl _, h1.lt, h1, Nat.le_refl _, hm, fun i hi => by simp only [if_pos hi]⟩, fun i hi => (h2 i hi).mono (Nat.le_succ _) (Nat.le_refl _), h3, ?_⟩
  intro i hi x y hx hy
  cases hx
  rcases h2 i hi with ⟨e, _⟩ | ⟨g', f', e, b1, b2, _⟩
  · rw [e] at hy; cases hy
  · rw [e] at hy; cases hy
    show g ≠ g'; omega

/-! ### What may have turned -/

/-- w' is w but for blocks of S, and new ones. -/
structure Chg (S : Nat → Prop) (w w' : World) : Prop where
  os : w'.os = w.os
  tape : w'.tape = w.tape
  output : w'.output = w.output
  size : w.heap.size ≤ w'.heap.size
  block : ∀ k, k < w.heap.size → ¬ S k → w'.heap[k]? = w.heap[k]?
theorem Chg.refl (S : Nat → Prop) (w : World) : Chg S w w := ⟨rfl, rfl, rfl, Nat.le_refl _, fun _ _ _ => rfl⟩
theorem Chg.trans {S : Nat → Prop} {a b c : World} (h : Chg S a b) (k : Chg S b c) : Chg S a c :=
  ⟨k.os.trans h.os, k.tape.trans h.tape, k.output.trans h.output, Nat.le_trans h.size k.size, fun i hi hs => (k.block i (Nat.lt_of_lt_of_le hi h.size) hs).trans (h.block i hi hs)⟩
theorem chg_of_below {S : Nat → Prop} {a b : World} (h : Below a.heap.size a b) : Chg S a b := ⟨h.os, h.tape, h.output, h.size, fun k hk _ => h.block k hk⟩
theorem Chg.then_below {S : Nat → Prop} {a b c : World} (h : Chg S a b) (k : Below b.heap.size b c) : Chg S a c := h.trans (chg_of_below k)
theorem Chg.set {S : Nat → Prop} {a b : World} {k i : Nat} (h : Chg S a b) (hk : S k ∨ a.heap.size ≤ k) (v : Value) : Chg S a (b.setCell ⟨k, i, none⟩ v) :=
  ⟨h.os, h.tape, h.output, by simpa using h.size, fun j hj hs => (Below.heap_setCell _ _ _ _ (by
    show j ≠ k
    rintro rfl
    rcases hk with hk | hk
    · exact hs hk
    · omega)).trans (h.block j hj hs)⟩
theorem Chg.alloc {S : Nat → Prop} {a b : World} (h : Chg S a b) (o : Obj) : Chg S a (b.alloc o) :=
  ⟨h.os, h.tape, h.output, by have := h.size; simp; omega, fun j hj hs => (Below.heap_alloc _ _ _ (Nat.lt_of_lt_of_le hj h.size)).trans (h.block j hj hs)⟩
theorem Chg.drew {S : Nat → Prop} {a b : World} (h : Chg S a b) : Chg S a b.drew := ⟨h.os, h.tape, h.output, h.size, h.block⟩
theorem Chg.undrew {S : Nat → Prop} {a b : World} (h : Chg S a.drew b) : Chg S a b := ⟨h.os, h.tape, h.output, h.size, h.block⟩
theorem Chg.drewN {S : Nat → Prop} {a b : World} (h : Chg S a b) (n : Nat) : Chg S a (b.drewN n) := ⟨h.os, h.tape, h.output, h.size, h.block⟩
theorem Chg.grown {S : Nat → Prop} {a b c : World} {row : Option Nat} (h : Chg S a b) (hg : b.grownBy c row) (hr : ∀ k, row = some k → S k ∨ a.heap.size ≤ k) : Chg S a c :=
  ⟨hg.os.trans h.os, hg.tape.trans h.tape, hg.output.trans h.output, Nat.le_trans h.size hg.size, fun k hk hs => (hg.block k (Nat.lt_of_lt_of_le hk h.size) (fun e => by
    rcases hr k e.symm with h1 | h1
    · exact hs h1
    · omega)).trans (h.block k hk hs)⟩
theorem Chg.below {S : Nat → Prop} {a b : World} {D : Nat} (h : Chg S a b) (hS : ∀ k, S k → D ≤ k) (hD : D ≤ a.heap.size) : Below D a b :=
  ⟨h.os, h.tape, h.output, h.size, fun k hk => h.block k (by omega) (fun hs => by have := hS k hs; omega)⟩
theorem Chg.agr {S : Nat → Prop} {a b : World} {B C : Nat} (h : Chg S a b) (hC : C ≤ a.heap.size) (hS : ∀ k, B ≤ k → k < C → ¬ S k) : Agr B C a b := fun k h1 h2 => h.block k (by omega) (hS k h1 h2)
theorem Chg.blk {S : Nat → Prop} {a b : World} {k : Nat} {o : Obj} (h : Chg S a b) (hb : a.heap[k]? = some o) (hS : ¬ S k) : b.heap[k]? = some o := (h.block k (lt_of_block hb) hS).trans hb

/-- The laws' reader: block rb holds a code and how far it is read. -/
def Rdr (w : World) (rb R : Nat) (l : List Int) (p : Nat) : Prop :=
  ∃ a cap, w.heap[rb]? = some (.cells #[.slice a l.length cap, .int .i64 p] R (0, 0)) ∧ RdB w rb a l ∧ l.length ≤ 2000
theorem Rdr.lt {w : World} {rb R : Nat} {l : List Int} {p : Nat} (h : Rdr w rb R l p) : rb < w.heap.size := by
  obtain ⟨a, cap, hb, _⟩ := h
  exact lt_of_block hb
theorem Rdr.agr {w w' : World} {rb R : Nat} {l : List Int} {p : Nat} (h : Rdr w rb R l p) (k : Agr 0 (rb + 1) w w') : Rdr w' rb R l p := by
  obtain ⟨a, cap, hb, hr, hl⟩ := h
  exact ⟨a, cap, (k rb (Nat.zero_le _) (Nat.lt_succ_self _)).trans hb, hr.agr (k.mono (Nat.le_refl _) (Nat.le_succ _)), hl⟩
theorem Rdr.below {w w' : World} {rb R : Nat} {l : List Int} {p D : Nat} (h : Rdr w rb R l p) (k : Below D w w') (hD : rb < D) : Rdr w' rb R l p := h.agr (agr_below k hD)
theorem Rdr.next {w : World} {rb R : Nat} {l : List Int} {p : Nat} (h : Rdr w rb R l p) : Rdr (w.setCell ⟨rb, 1, none⟩ (.int .i64 ((p : Int) + 1))) rb R l (p + 1) := by
  obtain ⟨a, cap, hb, hr, hl⟩ := h
  exact ⟨a, cap, blk_set _ hb, hr.agr ((Agr.refl _ _ _).set (by omega) _), hl⟩
/-- What a pick leaves: a number below n (0 where n is below 1), the reader one further, and all else as it was. -/
def PickR (rb R : Nat) (l : List Int) (p : Nat) (n : Int) (w : World) (e : Ending) (w' : World) : Prop :=
  ∃ v : Int, e = .returned (.int .i64 v) ∧ 0 ≤ v ∧ (v < n ∨ (n < 1 ∧ v = 0)) ∧ Rdr w' rb R l (p + 1) ∧ Chg (· = rb) w w' ∧ w'.heap.size = w.heap.size

/-- A drawn stream: two short slices of numbers in new memory; the reader at most K further; all else as it was. -/
def DrewS (rb R : Nat) (l : List Int) (p K : Nat) (w : World) (e : Ending) (w' : World) : Prop :=
  ∃ a1 c1 l1 a2 c2 l2, e = .returned (.agg #[.slice a1 l1.length c1, .slice a2 l2.length c2]) ∧ RdI w' w.heap.size w'.heap.size a1 l1 ∧ RdI w' w.heap.size w'.heap.size a2 l2 ∧ l1.length ≤ 12 ∧ l2.length ≤ 12 ∧
    (∃ p', p ≤ p' ∧ p' ≤ p + K ∧ Rdr w' rb R l p') ∧ Chg (· = rb) w w'

/-- A drawn stream, and nothing that was there has turned. -/
def DrewS0 (w : World) (e : Ending) (w' : World) : Prop :=
  ∃ a1 c1 l1 a2 c2 l2, e = .returned (.agg #[.slice a1 l1.length c1, .slice a2 l2.length c2]) ∧ RdI w' w.heap.size w'.heap.size a1 l1 ∧ RdI w' w.heap.size w'.heap.size a2 l2 ∧ l1.length ≤ 12 ∧ l2.length ≤ 12 ∧ Below w.heap.size w w'
theorem DrewS.of {rb R : Nat} {l : List Int} {p p' K : Nat} {w W : World} {a1 a2 : Option Addr} {c1 c2 : Nat} {l1 l2 : List Int} {s1 s2 : Value} (r1 : RdI W (w.heap.size + 1) W.heap.size a1 l1) (r2 : RdI W (w.heap.size + 1) W.heap.size a2 l2)
    (h1 : l1.length ≤ 12) (h2 : l2.length ≤ 12) (hp : p ≤ p') (hp' : p' ≤ p + K) (hr : Rdr W rb R l p') (hc : Chg (· = rb) w W) (hrb : rb < w.heap.size) :
    DrewS rb R l p K w (.returned (.agg #[.slice a1 l1.length c1, .slice a2 l2.length c2])) ((W.setCell ⟨w.heap.size, 0, none⟩ s1).setCell ⟨w.heap.size, 1, none⟩ s2) :=
  ⟨a1, c1, l1, a2, c2, l2, rfl, (r1.agr (((Agr.refl _ _ _).set (by omega) _).set (by omega) _)).mono (by omega) (by simp), (r2.agr (((Agr.refl _ _ _).set (by omega) _).set (by omega) _)).mono (by omega) (by simp), h1, h2,
    ⟨p', hp, hp', hr.agr (((Agr.refl _ _ _).set (by omega) _).set (by omega) _)⟩, (hc.set (.inr (by omega)) _).set (.inr (by omega)) _⟩

/-! ### append, in these words -/

def blockOf : Option Addr → Option Nat := fun a => (a.map (·.block))
theorem ownBlock_slice (a : Option Addr) (n c : Nat) : (Value.slice a n c).ownBlock = blockOf a := by cases a <;> rfl

theorem rowIs_take {w : World} {g E cap n : Nat} {F : Nat → Value} {xs : List Value} (hr : w.rowIs g E cap F) (hn : n ≤ cap) (hx : xs.length = n) (hf : ∀ i, i < n → xs[i]? = some (F i)) :
    ∃ cur, w.heap[g]? = some (.cells cur E (0, 0)) ∧ cur.size = cap ∧ cur.toList.take n = xs := by
  obtain ⟨c, hb, hs, hc⟩ := hr
  refine ⟨c, hb, hs, List.ext_getElem? fun i => ?_⟩
  rw [List.getElem?_take]
  by_cases hi : i < n
  · rw [if_pos hi, hf i hi, ← hc i (by omega)]; simp
  · rw [if_neg hi, List.getElem?_eq_none (by omega)]

theorem OwV.owns {w : World} {E B C : Nat} {a : Option Addr} {cap n : Nat} {f : Nat → Value} {xs : List Value} (h : OwV w E B C a cap n f) (hx : xs.length = n) (hf : ∀ i, i < n → xs[i]? = some (f i)) :
    w.ownsRow B E 1 (.slice a n cap) n xs := by
  refine ⟨by omega, ?_⟩
  rcases h with ⟨rfl, rfl, rfl⟩ | ⟨g, F, rfl, h1, h2, hr, hl, hm, hF⟩
  · exact .inl ⟨rfl, rfl⟩
  · obtain ⟨cur, c1, c2, c3⟩ := rowIs_take hr hl hx (fun i hi => by rw [hf i hi, hF i hi])
    exact .inr ⟨g, cap, cur, rfl, h1, c1, hl, hm, by omega, by rw [Nat.mul_one]; exact c3⟩
theorem OwV.of_owns {w : World} {E B C g cap n : Nat} {f : Nat → Value} {xs : List Value} (h : w.ownsRow B E 1 (.slice (some ⟨g, 0, none⟩) n cap) n xs) (hg : g < C) (hf : ∀ i, i < n → xs[i]? = some (f i)) :
    OwV w E B C (some ⟨g, 0, none⟩) cap n f := by
  obtain ⟨hx, h⟩ := h
  rcases h with ⟨h, _⟩ | ⟨g', cap', cur, he, h1, h2, h3, h4, h5, h6⟩
  · cases h
  · cases he
    rw [Nat.mul_one] at h5 h6
    refine .inr ⟨g, fun i => cur.toList.getD i undef, rfl, h1, hg, ⟨cur, h2, h5, fun i hi => ?_⟩, h3, h4, fun i hi => ?_⟩
    · have hi' : i < cur.size := by omega
      simp [List.getD, hi']
    · have e := hf i hi
      rw [← h6, List.getElem?_take, if_pos hi] at e
      simp [List.getD, e]

theorem OwI.not_block {w : World} {E B C k : Nat} {a : Option Addr} {cap : Nat} {l : List Int} (h : OwI w E B C a cap l) (hk : k < B ∨ C ≤ k) : blockOf a ≠ some k := by
  rcases h with ⟨rfl, _⟩ | ⟨g, f, rfl, h1, h2, _⟩
  · simp [blockOf]
  · simp [blockOf]; omega
theorem OwI.nilcap {w : World} {E B C : Nat} {a : Option Addr} {cap : Nat} {l : List Int} (h : OwI w E B C a cap l) : a = none → cap = 0 := by
  intro e
  rcases h with ⟨_, _, h⟩ | ⟨g, f, h, _⟩
  · exact h
  · rw [h] at e; cases e
theorem OwI.block_in {w : World} {E B C k : Nat} {a : Option Addr} {cap : Nat} {l : List Int} (h : OwI w E B C a cap l) (hk : blockOf a = some k) : B ≤ k ∧ k < C := by
  rcases h with ⟨rfl, _⟩ | ⟨g, f, rfl, h1, h2, _⟩
  · simp [blockOf] at hk
  · simp [blockOf] at hk; omega
theorem new_cell (w : World) (v : Value) (E : Nat) : (w.alloc (.cells #[v] E)).cell? ((⟨w.heap.size, 0, none⟩ : Addr).add 0) = some v := cell_one_new _ _ _ 0 _ rfl
theorem grown_blk {w w' : World} {a : Option Addr} {k : Nat} {o : Obj} (hg : w.grownBy w' (blockOf a)) (hb : w.heap[k]? = some o) (hne : blockOf a ≠ some k) : w'.heap[k]? = some o :=
  (hg.block k (lt_of_block hb) (fun e => hne e.symm)).trans hb
theorem OwI.toV {w : World} {E B C : Nat} {a : Option Addr} {cap : Nat} {l : List Int} (h : OwI w E B C a cap l) : OwV w E B C a cap l.length (fun i => .int .i64 (l.getD i 0)) := by
  rcases h with ⟨h1, rfl, h3⟩ | h
  · exact .inl ⟨h1, rfl, h3⟩
  · exact .inr h
theorem OwV.toI {w : World} {E B C : Nat} {a : Option Addr} {cap : Nat} {l : List Int} (h : OwV w E B C a cap l.length (fun i => .int .i64 (l.getD i 0))) : OwI w E B C a cap l := by
  rcases h with ⟨h1, h2, h3⟩ | h
  · exact .inl ⟨h1, List.length_eq_zero_iff.1 h2, h3⟩
  · exact .inr h
theorem ints_get (l : List Int) (i : Nat) (hi : i < l.length) : (l.map (Value.int .i64))[i]? = some (.int .i64 (l.getD i 0)) := by
  simp [List.getD, hi]
theorem OwI.owns {w : World} {E B C : Nat} {a : Option Addr} {cap : Nat} {l : List Int} (h : OwI w E B C a cap l) : w.ownsRow B E 1 (.slice a l.length cap) l.length (l.map (Value.int .i64)) :=
  h.toV.owns (by simp) (fun i hi => ints_get l i hi)
theorem OwI.of_owns {w : World} {E B C g cap : Nat} {l : List Int} (h : w.ownsRow B E 1 (.slice (some ⟨g, 0, none⟩) l.length cap) l.length (l.map (Value.int .i64))) (hg : g < C) : OwI w E B C (some ⟨g, 0, none⟩) cap l :=
  (OwV.of_owns h hg (fun i hi => ints_get l i hi)).toI

theorem srcI {w : World} {B C : Nat} {a : Option Addr} {m : List Int} (h : RdI w B C a m) : ∀ ad, a = some ad → ∀ j u, (m.map (Value.int .i64))[j]? = some u → w.cell? (ad.add j) = some u := by
  intro ad e j u hu
  have hj : j < m.length := by have := (List.getElem?_eq_some_iff.1 hu).1; simpa using this
  obtain ⟨b, off, e', _, _, hc⟩ := h j hj
  rw [e'] at e
  cases e
  rw [Addr.add_lit, hc]
  rw [ints_get m j hj] at hu
  exact hu
theorem srcI_none {w : World} {B C : Nat} {a : Option Addr} {m : List Int} (h : RdI w B C a m) (e : a = none) : m.length = 0 := by
  rcases Nat.eq_zero_or_pos m.length with h0 | h0
  · exact h0
  · obtain ⟨b, off, e', _⟩ := h 0 h0
    rw [e'] at e
    cases e
theorem appI_of {w : World} {E B C : Nat} {a : Option Addr} {cap : Nat} {l m : List Int} (h : OwV w E B C a cap (l.length + m.length) (fun i => if i < l.length then .int .i64 (l.getD i 0) else (m.map (Value.int .i64)).getD (i - l.length) undef)) :
    OwI w E B C a cap (l ++ m) := by
  apply OwV.toI
  have e : (l ++ m).length = l.length + m.length := by simp
  rw [e]
  rcases h with h | ⟨b, F, h1, h2, h3, h4, h5, h6, h7⟩
  · exact .inl h
  · refine .inr ⟨b, F, h1, h2, h3, h4, h5, h6, fun i hi => (h7 i hi).trans ?_⟩
    by_cases hil : i < l.length
    · simp [List.getD, hil, List.getElem?_append_left hil]
    · have : i - l.length < m.length := by omega
      simp only [if_neg hil]
      simp [List.getD, this, List.getElem?_append_right (Nat.le_of_not_lt hil)]
theorem OwI_empty (w : World) (E : Nat) : OwI (w.alloc (.cells #[] E)) E w.heap.size (w.heap.size + 1) (some ⟨w.heap.size, 0, none⟩) 0 [] :=
  .inr ⟨w.heap.size, fun _ => undef, rfl, Nat.le_refl _, Nat.lt_succ_self _, ⟨#[], alloc1 _ _, rfl, fun i hi => by omega⟩, Nat.le_refl _, by simp, fun i hi => by simp at hi⟩
theorem OwI_one (w : World) (E : Nat) (x : Int) : OwI (w.alloc (.cells #[.int .i64 x] E)) E w.heap.size (w.heap.size + 1) (some ⟨w.heap.size, 0, none⟩) 1 [x] := by
  refine .inr ⟨_, fun i => .int .i64 ([x].getD i 0), rfl, Nat.le_refl _, Nat.lt_succ_self _, World.rowIs_alloc w _ _ _ (fun i hi => ?_), Nat.le_refl _, by unfold maxLen; omega, fun i hi => rfl⟩
  match i, hi with
  | 0, _ => rfl
section
variable {P : Program}
/-- append of one number to a slice that the call owns: at a plain region's list. E: the numbers' type, T: the slice's. -/
theorem wpList_appI {E T : Nat} (hT : P.underlying T = some (.slice E)) (hE : (P.info? E).map (fun i => (i.zero, i.size, i.bytes)) = some (some (.int .i64 0), 1, 8))
    (w : World) {ops : Array Oper} {rest : List Oper} {o : Oper} {a : Act} {Q : Exit → Act → World → Prop} (hgd : o.guard = none) (s x : Operand)
    (ho : o.op = .call { callee := .builtin .append, args := #[s, x], argTypes := #[T, T] }) (B C : Nat) (a0 : Option Addr) (cap : Nat) (l : List Int) (hs : a.eval s = .slice a0 l.length cap) (hown : OwI w E B C a0 cap l)
    (hB : B ≤ w.heap.size) (ad : Addr) (v : Int) (hx : a.eval x = .slice (some ad) 1 1) (hnew : w.cell? (ad.add 0) = some (.int .i64 v)) (hl : l.length ≤ 1048576)
    (h : ∀ (g cap' : Nat) (w' : World), OwI w' E B w'.heap.size (some ⟨g, 0, none⟩) cap' (l ++ [v]) → w.grownBy w' (blockOf a0) → (blockOf a0 = some g ∨ g = w.heap.size) → g < w'.heap.size →
      wpList P ops Q rest (a.put o.dst (.slice (some ⟨g, 0, none⟩) (l.length + 1) cap')) w') : wpList P ops Q (o :: rest) a w := by
  obtain ⟨i, hi, hz, hs1, hb1⟩ := info_parts hE
  refine wpList_append_lies w hgd s x T ho B E i _ 1 8 hT hi hz hs1 hb1 rfl (by omega) _ l.length _ hs hown.owns ad 1 1 [.int .i64 v] hx rfl ?_ (by simp [Value.oneCell']) (by omega) (by unfold maxLen; omega) (by omega) hB _ rfl ?_
  · intro j u hu
    match j, hu with
    | 0, hu => simp at hu; subst hu; exact hnew
  · intro g cap' w' h2 h3 h4 h5
    rw [ownBlock_slice] at h3 h4
    refine h g cap' w' (OwI.of_owns ?_ h5) h3 h4 h5
    have e1 : (l ++ [v]).length = l.length + 1 := by simp
    rw [e1]
    simpa using h2
/-- The same at a step of a region that draws its order. -/
theorem step_appI {E T : Nat} (hT : P.underlying T = some (.slice E)) (hE : (P.info? E).map (fun i => (i.zero, i.size, i.bytes)) = some (some (.int .i64 0), 1, 8))
    (w : World) {ops : Array Oper} {o : Oper} {a : Act} {K : Act → World → Prop} {Q : Exit → Act → World → Prop} {R : Prop} (hgd : o.guard = none) (s x : Operand)
    (ho : o.op = .call { callee := .builtin .append, args := #[s, x], argTypes := #[T, T] }) (B C : Nat) (a0 : Option Addr) (cap : Nat) (l : List Int) (hs : a.eval s = .slice a0 l.length cap) (hown : OwI w E B C a0 cap l)
    (hB : B ≤ w.heap.size) (ad : Addr) (v : Int) (hx : a.eval x = .slice (some ad) 1 1) (hnew : w.cell? (ad.add 0) = some (.int .i64 v)) (hl : l.length ≤ 1048576)
    (h : ∀ (g cap' : Nat) (w' : World), OwI w' E B w'.heap.size (some ⟨g, 0, none⟩) cap' (l ++ [v]) → w.grownBy w' (blockOf a0) → (blockOf a0 = some g ∨ g = w.heap.size) → g < w'.heap.size →
      K (a.put o.dst (.slice (some ⟨g, 0, none⟩) (l.length + 1) cap')) w') : if Region.wanted o (yielded ops a.tmps) = true then Oper.wp P o a w K Q else R := by
  obtain ⟨i, hi, hz, hs1, hb1⟩ := info_parts hE
  refine step_append_lies w hgd s x T ho B E i _ 1 8 hT hi hz hs1 hb1 rfl (by omega) _ l.length _ hs hown.owns ad 1 1 [.int .i64 v] hx rfl ?_ (by simp [Value.oneCell']) (by omega) (by unfold maxLen; omega) (by omega) hB _ rfl ?_
  · intro j u hu
    match j, hu with
    | 0, hu => simp at hu; subst hu; exact hnew
  · intro g cap' w' h2 h3 h4 h5
    rw [ownBlock_slice] at h3 h4
    refine h g cap' w' (OwI.of_owns ?_ h5) h3 h4 h5
    have e1 : (l ++ [v]).length = l.length + 1 := by simp
    rw [e1]
    simpa using h2

theorem ownsRow_slice {w : World} {B E n : Nat} {v : Value} {xs : List Value} (h : w.ownsRow B E 1 v n xs) : ∃ a cap, v = .slice a n cap := by
  rcases h.2 with ⟨h, h0⟩ | ⟨g, cap, cur, h, _⟩
  · exact ⟨none, 0, by rw [h, h0]⟩
  · exact ⟨_, _, h⟩
theorem OwV.congr {w : World} {E B C : Nat} {a : Option Addr} {cap n : Nat} {f g : Nat → Value} (h : OwV w E B C a cap n f) (e : ∀ i, i < n → f i = g i) : OwV w E B C a cap n g := by
  rcases h with h | ⟨b, F, h1, h2, h3, h4, h5, h6, h7⟩
  · exact .inl h
  · exact .inr ⟨b, F, h1, h2, h3, h4, h5, h6, fun i hi => (h7 i hi).trans (e i hi)⟩
theorem owns_toV {w : World} {E B : Nat} {a : Option Addr} {cap n : Nat} {f : Nat → Value} {xs : List Value} (h : w.ownsRow B E 1 (.slice a n cap) n xs) (hf : ∀ i, i < n → xs[i]? = some (f i)) : OwV w E B w.heap.size a cap n f := by
  rcases h.2 with ⟨h2, h0⟩ | ⟨g, cap', cur, he, h1, h2, _⟩
  · simp only [Value.slice.injEq] at h2
    obtain ⟨rfl, rfl, rfl⟩ := h2
    exact .inl ⟨rfl, rfl, rfl⟩
  · simp only [Value.slice.injEq] at he
    obtain ⟨rfl, _, rfl⟩ := he
    exact OwV.of_owns h (lt_of_block h2) hf

/-- To append a nil slice, whatever room it is said to have. -/
theorem run_append_none_cap {w : World} (base : Nat) (t ty e : TypeId) (i : TypeInfo) (size : Nat) (ht : P.underlying t = some (.slice e)) (hi : P.info? e = some i) (v : Value) (n : Nat) (xs : List Value) (c : Nat) (hown : w.ownsRow base e size v n xs) :
    (Builtin.append_ #[t, t] ty #[v, .slice none 0 c]).run P w = .ok v w := by
  rcases hown.2 with ⟨rfl, rfl⟩ | ⟨g, cap, cur, rfl, _, _, hnc, _⟩
  · simp [Builtin.append_, run_underlying ht, sizeOf, typeInfo, hi, Builtin.lenOf, Builtin.firstCells]
  · simp [Builtin.append_, run_underlying ht, sizeOf, typeInfo, hi, Builtin.lenOf, Builtin.firstCells, hnc, storeCells]
/-- append of what a slice holds to a slice that the call owns, elements of one cell. -/
theorem run_appVs {E T ty bytes : Nat} {z : Value} (hT : P.underlying T = some (.slice E)) (hE : (P.info? E).map (fun i => (i.zero, i.size, i.bytes)) = some (some z, 1, bytes)) (hz1 : z.cells.size = 1) (hby : bytes ≤ 24)
    (w : World) (B C : Nat) (a0 : Option Addr) (cap n : Nat) (f : Nat → Value) (hown : OwV w E B C a0 cap n f) (hB : B ≤ w.heap.size) (ax : Option Addr) (m cx : Nat) (news : List Value) (hn : news.length = m)
    (hc : ∀ ad, ax = some ad → ∀ j u, news[j]? = some u → w.cell? (ad.add j) = some u) (hnone : ax = none → m = 0) (h1 : ∀ u ∈ news, u.oneCell' = true) (hb : n + m ≤ 4194304) :
    ∃ a' cap' w', (Builtin.append_ #[T, T] ty #[.slice a0 n cap, .slice ax m cx]).run P w = .ok (.slice a' (n + m) cap') w' ∧ OwV w' E B w'.heap.size a' cap' (n + m) (fun i => if i < n then f i else news.getD (i - n) undef) ∧
      w.grownBy w' (blockOf a0) ∧ (blockOf a' = blockOf a0 ∨ blockOf a' = some w.heap.size) := by
  obtain ⟨i, hi, hz, hs1, hb1⟩ := info_parts hE
  have howns : w.ownsRow B E 1 (.slice a0 n cap) n ((List.range n).map f) := hown.owns (by simp) (fun i hi => by simp [hi])
  cases ax with
  | none =>
    obtain rfl := hnone rfl
    refine ⟨a0, cap, w, run_append_none_cap (P := P) B T ty E i 1 hT hi _ n _ cx howns, ?_, ⟨rfl, rfl, rfl, Nat.le_refl _, fun _ _ _ => rfl⟩, .inl rfl⟩
    exact owns_toV howns (fun i hi => by simp at hi; simp [hi])
  | some ad =>
    obtain ⟨v', w', hr, h2, h3, _, h5⟩ := run_append_own_at (P := P) w B T ty E i z 1 bytes hT hi hz hs1 hb1 hz1 (by omega) _ n _ howns ad m cx news (by omega) (hc ad rfl) h1 (by unfold maxLen; omega)
      (Nat.le_trans (Nat.mul_le_mul hb hby) (by omega)) hB
    obtain ⟨a', cap', rfl⟩ := ownsRow_slice h2
    rw [ownBlock_slice] at h3 h5
    rw [ownBlock_slice] at h5
    refine ⟨a', cap', w', hr, owns_toV h2 (fun j hj => ?_), h3, h5⟩
    by_cases hjn : j < n
    · rw [List.getElem?_append_left (by simpa using hjn)]
      simp [hjn]
    · rw [List.getElem?_append_right (by simp; omega)]
      simp only [List.length_map, List.length_range, if_neg hjn]
      have : j - n < news.length := by omega
      simp [List.getD, this]

theorem wp_appVs {E T bytes : Nat} {z : Value} (hT : P.underlying T = some (.slice E)) (hE : (P.info? E).map (fun i => (i.zero, i.size, i.bytes)) = some (some z, 1, bytes)) (hz1 : z.cells.size = 1) (hby : bytes ≤ 24)
    (w : World) {o : Oper} {a : Act} {K : Act → World → Prop} {Q : Exit → Act → World → Prop} (s x : Operand) (ho : o.op = .call { callee := .builtin .append, args := #[s, x], argTypes := #[T, T] })
    (B C : Nat) (a0 : Option Addr) (cap n : Nat) (f : Nat → Value) (hs : a.eval s = .slice a0 n cap) (hown : OwV w E B C a0 cap n f) (hB : B ≤ w.heap.size) (ax : Option Addr) (m cx : Nat) (news : List Value) (hx : a.eval x = .slice ax m cx) (hn : news.length = m)
    (hc : ∀ ad, ax = some ad → ∀ j u, news[j]? = some u → w.cell? (ad.add j) = some u) (hnone : ax = none → m = 0) (h1 : ∀ u ∈ news, u.oneCell' = true) (hb : n + m ≤ 4194304)
    (h : ∀ a' cap' w', OwV w' E B w'.heap.size a' cap' (n + m) (fun i => if i < n then f i else news.getD (i - n) undef) → w.grownBy w' (blockOf a0) → (blockOf a' = blockOf a0 ∨ blockOf a' = some w.heap.size) →
      K (a.put o.dst (.slice a' (n + m) cap')) w') : o.wp P a w K Q := by
  obtain ⟨a', cap', w', hr, h2, h3, h4⟩ := run_appVs (P := P) (ty := o.type) hT hE hz1 hby w B C a0 cap n f hown hB ax m cx news hn hc hnone h1 hb
  unfold Oper.wp execOp
  simp only [ho, resolve, invoke, builtin, Sem.run_bind, Sem.run_pure, Result.andThen_ok, List.map_toArray, List.map_cons, List.map_nil, hs, hx, hr]
  exact h a' cap' w' h2 h3 h4

/-- append of what a slice of numbers holds to one that the call owns: at a plain region's list. -/
theorem wpList_appIs0 {E T : Nat} (hT : P.underlying T = some (.slice E)) (hE : (P.info? E).map (fun i => (i.zero, i.size, i.bytes)) = some (some (.int .i64 0), 1, 8))
    (w : World) {ops : Array Oper} {rest : List Oper} {o : Oper} {a : Act} {Q : Exit → Act → World → Prop} (hgd : o.guard = none) (s x : Operand) (ho : o.op = .call { callee := .builtin .append, args := #[s, x], argTypes := #[T, T] })
    (B C : Nat) (a0 : Option Addr) (cap : Nat) (l : List Int) (hs : a.eval s = .slice a0 l.length cap) (hown : OwI w E B C a0 cap l) (hB : B ≤ w.heap.size) (B' C' : Nat) (ax : Option Addr) (cx : Nat) (m : List Int) (hx : a.eval x = .slice ax m.length cx)
    (hrd : RdI w B' C' ax m) (hb : l.length + m.length ≤ 4194304)
    (h : ∀ a' cap' w', OwI w' E B w'.heap.size a' cap' (l ++ m) → w.grownBy w' (blockOf a0) → (blockOf a' = blockOf a0 ∨ blockOf a' = some w.heap.size) → wpList P ops Q rest (a.put o.dst (.slice a' (l.length + m.length) cap')) w') : wpList P ops Q (o :: rest) a w := by
  refine wpList_plain hgd fun K hK => wp_appVs hT hE rfl (by omega) w s x ho B C a0 cap l.length _ hs hown.toV hB ax m.length cx (m.map (Value.int .i64)) hx (by simp) (srcI hrd) (srcI_none hrd) (ints_oneCell _ _) hb ?_
  intro a' cap' w' h2 h3 h4
  exact hK _ _ (h a' cap' w' (appI_of h2) h3 h4)
theorem wpList_appIs {E T : Nat} (hT : P.underlying T = some (.slice E)) (hE : (P.info? E).map (fun i => (i.zero, i.size, i.bytes)) = some (some (.int .i64 0), 1, 8))
    (w : World) {ops : Array Oper} {rest : List Oper} {o : Oper} {a : Act} {Q : Exit → Act → World → Prop} (hgd : o.guard = none) (s x : Operand) (ho : o.op = .call { callee := .builtin .append, args := #[s, x], argTypes := #[T, T] })
    (B C : Nat) (a0 : Option Addr) (cap : Nat) (l : List Int) (hs : a.eval s = .slice a0 l.length cap) (hown : OwI w E B C a0 cap l) (hB : B ≤ w.heap.size) (B' C' : Nat) (ax : Option Addr) (cx : Nat) (m : List Int) (hx : a.eval x = .slice ax m.length cx)
    (hrd : RdI w B' C' ax m) (_hnone : ax = none → cx = 0) (hb : l.length + m.length ≤ 4194304)
    (h : ∀ a' cap' w', OwI w' E B w'.heap.size a' cap' (l ++ m) → w.grownBy w' (blockOf a0) → (blockOf a' = blockOf a0 ∨ blockOf a' = some w.heap.size) → wpList P ops Q rest (a.put o.dst (.slice a' (l.length + m.length) cap')) w') : wpList P ops Q (o :: rest) a w :=
  wpList_appIs0 hT hE w hgd s x ho B C a0 cap l hs hown hB B' C' ax cx m hx hrd hb h
/-- The same at a step of a region that draws its order. -/
theorem step_appIs {E T : Nat} (hT : P.underlying T = some (.slice E)) (hE : (P.info? E).map (fun i => (i.zero, i.size, i.bytes)) = some (some (.int .i64 0), 1, 8))
    (w : World) {ops : Array Oper} {o : Oper} {a : Act} {K : Act → World → Prop} {Q : Exit → Act → World → Prop} {R : Prop} (hgd : o.guard = none) (s x : Operand) (ho : o.op = .call { callee := .builtin .append, args := #[s, x], argTypes := #[T, T] })
    (B C : Nat) (a0 : Option Addr) (cap : Nat) (l : List Int) (hs : a.eval s = .slice a0 l.length cap) (hown : OwI w E B C a0 cap l) (hB : B ≤ w.heap.size) (B' C' : Nat) (ax : Option Addr) (cx : Nat) (m : List Int) (hx : a.eval x = .slice ax m.length cx)
    (hrd : RdI w B' C' ax m) (_hnone : ax = none → cx = 0) (hb : l.length + m.length ≤ 4194304)
    (h : ∀ a' cap' w', OwI w' E B w'.heap.size a' cap' (l ++ m) → w.grownBy w' (blockOf a0) → (blockOf a' = blockOf a0 ∨ blockOf a' = some w.heap.size) → K (a.put o.dst (.slice a' (l.length + m.length) cap')) w') :
    if Region.wanted o (yielded ops a.tmps) = true then Oper.wp P o a w K Q else R := by
  have hw : Region.wanted o (yielded ops a.tmps) = true := by simp [Region.wanted, hgd]
  rw [if_pos hw]
  refine wp_appVs hT hE rfl (by omega) w s x ho B C a0 cap l.length _ hs hown.toV hB ax m.length cx (m.map (Value.int .i64)) hx (by simp) (srcI hrd) (srcI_none hrd) (ints_oneCell _ _) hb ?_
  intro a' cap' w' h2 h3 h4
  exact h a' cap' w' (appI_of h2) h3 h4
end

end Go.Hyp
namespace Go.Hyp

/-- From place n on, p places further it is the same. -/
def Per (f : Nat → Int) (n p : Nat) : Prop := ∀ k, n ≤ k → f (k + p) = f k
theorem Per.sub {f : Nat → Int} {n p q : Nat} (h : Per f n p) (k : Per f n q) (hq : q ≤ p) : Per f n (p - q) := fun i hi => by
  have h1 := k (i + (p - q)) (by omega)
  have h2 := h i hi
  rw [show i + (p - q) + q = i + p by omega] at h1
  rw [← h1, h2]
theorem Per.iter {f : Nat → Int} {n p : Nat} (h : Per f n p) (j : Nat) : Per f n (j * p) := by
  induction j with
  | zero => intro i hi; simp
  | succ j ih => intro i hi; rw [Nat.succ_mul, ← Nat.add_assoc, h _ (by omega), ih i hi]
theorem Per.mono {f : Nat → Int} {n n' p : Nat} (h : Per f n p) (hn : n ≤ n') : Per f n' p := fun i hi => h i (by omega)
theorem Per.lower {f : Nat → Int} {n m p q : Nat} (h : Per f n p) (k : Per f m q) (hq : 0 < q) : Per f m p := fun i hi => by
  have hb : n ≤ n * q := Nat.le_mul_of_pos_right n hq
  have h1 := (k.iter n) (i + p) (by omega)
  have h2 := (k.iter n) i hi
  have h3 := h (i + n * q) (by omega)
  rw [← h1, ← h2, ← h3]; congr 1; omega
theorem Per.mod {f : Nat → Int} {n p q : Nat} (h : Per f n p) (k : Per f n q) : Per f n (p % q) := by
  have h1 := h.sub (k.iter (p / q)) (Nat.div_mul_le_self p q)
  have e : p - p / q * q = p % q := by have := Nat.mod_add_div p q; rw [Nat.mul_comm] at this; omega
  rwa [e] at h1

theorem bitOf_per (l1 l2 : List Int) : Per (bitOf l1 l2) l1.length l2.length := fun k hk => by
  unfold bitOf
  rw [if_neg (by omega), if_neg (by omega), show k + l2.length - l1.length = (k - l1.length) + l2.length by omega, Nat.add_mod_right]

/-- m1, m2 tell the bits f, and nothing shorter does. -/
def ShortFor (f : Nat → Int) (m1 m2 : List Int) : Prop :=
  bitOf m1 m2 = f ∧ 0 < m2.length ∧ (∀ n p, 0 < p → Per f n p → m2.length ≤ p) ∧ ∀ n p, 0 < p → Per f n p → m1.length ≤ n
theorem bitOf_ahead {l1 l2 : List Int} (i : Nat) (h : i < l1.length) : bitOf l1 l2 i = l1[i] := by
  unfold bitOf; rw [if_pos h]; simp [List.getD, h]
theorem bitOf_again {l1 l2 : List Int} (i : Nat) (h : i < l2.length) : bitOf l1 l2 (l1.length + i) = l2[i] := by
  unfold bitOf; rw [if_neg (by omega), show l1.length + i - l1.length = i by omega, Nat.mod_eq_of_lt h]; simp [List.getD, h]
theorem ShortFor.one {f : Nat → Int} {m1 m2 n1 n2 : List Int} (h : ShortFor f m1 m2) (k : ShortFor f n1 n2) : m1 = n1 ∧ m2 = n2 := by
  obtain ⟨h1, h2, h3, h4⟩ := h
  obtain ⟨k1, k2, k3, k4⟩ := k
  have pm : Per f m1.length m2.length := h1 ▸ bitOf_per m1 m2
  have pn : Per f n1.length n2.length := k1 ▸ bitOf_per n1 n2
  have e1 : m1.length = n1.length := Nat.le_antisymm (h4 _ _ k2 pn) (k4 _ _ h2 pm)
  have e2 : m2.length = n2.length := Nat.le_antisymm (h3 _ _ k2 pn) (k3 _ _ h2 pm)
  constructor
  · apply List.ext_getElem e1
    intro i a b
    rw [← bitOf_ahead (l2 := m2) i a, ← bitOf_ahead (l2 := n2) i b, h1, k1]
  · apply List.ext_getElem e2
    intro i a b
    rw [← bitOf_again (l1 := m1) i a, ← bitOf_again (l1 := n1) i b, h1, k1, e1]

/-! ### The program's way -/

theorem shift_mod {l : List Int} {n : Nat} (_hn : 0 < n) (h : l.drop n = l.take (l.length - n)) : ∀ j, j < l.length → l.getD j 0 = l.getD (j % n) 0 := by
  intro j
  induction j using Nat.strongRecOn with
  | ind j ih =>
    intro hj
    by_cases hjn : j < n
    · rw [Nat.mod_eq_of_lt hjn]
    · have e := congrArg (fun x => x.getD (j - n) 0) h
      have h1 : j - n < l.length - n := by omega
      simp only [List.getD, List.getElem?_drop, List.getElem?_take, if_pos h1, show n + (j - n) = j by omega] at e
      have h2 := ih (j - n) (by omega) (by omega)
      rw [show j % n = (j - n) % n from Nat.mod_eq_sub_mod (by omega), ← h2]
      exact e
theorem cut_same {l1 l : List Int} {n : Nat} (hn : 0 < n) (hnl : n ≤ l.length) (hd : l.length % n = 0) (h : l.drop n = l.take (l.length - n)) : bitOf l1 (l.take n) = bitOf l1 l := by
  funext k
  unfold bitOf
  by_cases hk : k < l1.length
  · rw [if_pos hk, if_pos hk]
  · rw [if_neg hk, if_neg hk]
    have hl : (l.take n).length = n := by simp; omega
    have h0 : 0 < l.length := by omega
    have m1 := Nat.mod_lt (k - l1.length) hn
    rw [hl, shift_mod hn h _ (Nat.mod_lt _ h0), Nat.mod_mod_of_dvd _ (Nat.dvd_of_mod_eq_zero hd)]
    simp [List.getD, m1]
/-- What holds of the first loop ahead of round n: l is what comes again so far. -/
def RoundA (l1 l2 l : List Int) (n : Nat) : Prop :=
  bitOf l1 l = bitOf l1 l2 ∧ 0 < l.length ∧ l.length ≤ l2.length ∧ 0 < n ∧ (∀ x ∈ l, x ∈ l2) ∧ ∀ p, 0 < p → p < n → Per (bitOf l1 l2) l1.length p → l.length ≤ p
theorem RoundA.start {l1 l2 : List Int} (h : 0 < l2.length) : RoundA l1 l2 l2 1 := ⟨rfl, h, Nat.le_refl _, Nat.one_pos, fun _ hx => hx, fun p h0 h1 _ => by omega⟩
theorem RoundA.cut {l1 l2 l : List Int} {n : Nat} (h : RoundA l1 l2 l n) (hn : n < l.length) (hd : l.length % n = 0) (hs : l.drop n = l.take (l.length - n)) : RoundA l1 l2 (l.take n) (n + 1) := by
  obtain ⟨h1, h2, h3, h4, h6, h5⟩ := h
  have hl : (l.take n).length = n := by simp; omega
  refine ⟨(cut_same h4 (by omega) hd hs).trans h1, by omega, by omega, by omega, fun x hx => h6 x (List.mem_of_mem_take hx), fun p p0 pn hp => ?_⟩
  rw [hl]
  by_cases e : p < n
  · have := h5 p p0 e hp; omega
  · omega
theorem RoundA.stay {l1 l2 l : List Int} {n : Nat} (h : RoundA l1 l2 l n) (hn : n < l.length) (hs : ¬ (l.length % n = 0 ∧ l.drop n = l.take (l.length - n))) : RoundA l1 l2 l (n + 1) := by
  obtain ⟨h1, h2, h3, h4, h6, h5⟩ := h
  refine ⟨h1, h2, h3, by omega, h6, fun p p0 pn hp => ?_⟩
  by_cases e : p < n
  · exact h5 p p0 e hp
  · obtain rfl : p = n := by omega
    exfalso
    have hper : Per (bitOf l1 l2) l1.length l.length := h1 ▸ bitOf_per l1 l
    by_cases hd : l.length % p = 0
    · apply hs
      refine ⟨hd, ?_⟩
      apply List.ext_getElem (by simp)
      intro i a b
      simp at a
      have e1 := bitOf_again (l1 := l1) (l2 := l) (i + p) (by omega)
      have e2 := bitOf_again (l1 := l1) (l2 := l) i (by omega)
      have e3 := hp (l1.length + i) (by omega)
      rw [← h1, Nat.add_assoc, e1, e2] at e3
      simp only [List.getElem_drop, List.getElem_take]
      rw [← e3]; congr 1; omega
    · have hm := hper.mod hp
      have hlt := Nat.mod_lt l.length p0
      have := h5 _ (by omega) hlt hm
      omega
/-- What holds of the second loop ahead of each round. -/
def RoundB (f : Nat → Int) (m1 m2 : List Int) : Prop := bitOf m1 m2 = f ∧ 0 < m2.length ∧ ∀ n p, 0 < p → Per f n p → m2.length ≤ p
theorem RoundA.done {l1 l2 l : List Int} {n : Nat} (h : RoundA l1 l2 l n) (hn : l.length ≤ n) : RoundB (bitOf l1 l2) l1 l := by
  obtain ⟨h1, h2, h3, h4, h6, h5⟩ := h
  refine ⟨h1, h2, fun m p p0 hp => ?_⟩
  have hper : Per (bitOf l1 l2) l1.length l.length := h1 ▸ bitOf_per l1 l
  by_cases e : p < n
  · exact h5 p p0 e (hp.lower hper h2)
  · omega
theorem RoundB.last {f : Nat → Int} {m1 m2 : List Int} (h : RoundB f m1 m2) (h0 : 0 < m1.length) : f (m1.length - 1) = m1.getD (m1.length - 1) 0 ∧ f (m1.length - 1 + m2.length) = m2.getD (m2.length - 1) 0 := by
  obtain ⟨h1, h2, h3⟩ := h
  subst h1
  constructor
  · unfold bitOf; rw [if_pos (by omega)]
  · unfold bitOf; rw [if_neg (by omega), show m1.length - 1 + m2.length - m1.length = m2.length - 1 by omega, Nat.mod_eq_of_lt (by omega)]
theorem RoundB.cut {f : Nat → Int} {m1 m2 : List Int} {v : Int} (h : RoundB f m1 m2) (h0 : 0 < m1.length) (hv : m1.getD (m1.length - 1) 0 = m2.getD (m2.length - 1) 0) (hv' : v = m2.getD (m2.length - 1) 0) :
    RoundB f (m1.take (m1.length - 1)) ([v] ++ m2.take (m2.length - 1)) := by
  obtain ⟨h1, h2, h3⟩ := h
  have l1 : (m1.take (m1.length - 1)).length = m1.length - 1 := by simp
  have l2 : ([v] ++ m2.take (m2.length - 1)).length = m2.length := by simp; omega
  refine ⟨?_, by omega, by rwa [l2]⟩
  subst h1
  funext k
  unfold bitOf
  rw [l1, l2]
  by_cases hk : k < m1.length - 1
  · rw [if_pos hk, if_pos (by omega)]
    simp only [List.getD, List.getElem?_take, if_pos hk]
  · rw [if_neg hk]
    have key : ∀ i, i < m2.length → ([v] ++ m2.take (m2.length - 1)).getD i 0 = if i = 0 then v else m2.getD (i - 1) 0 := by
      intro i hi
      cases i with
      | zero => simp
      | succ i =>
        rw [if_neg (by omega)]
        have hi' : i < m2.length - 1 := by omega
        simp only [List.singleton_append, List.getD, List.getElem?_cons_succ, List.getElem?_take, if_pos hi', Nat.add_sub_cancel]
    rw [key _ (Nat.mod_lt _ h2)]
    by_cases hk1 : k < m1.length
    · obtain rfl : k = m1.length - 1 := by omega
      rw [if_pos hk1, Nat.sub_self, Nat.zero_mod, if_pos rfl, hv', hv]
    · rw [if_neg hk1]
      obtain ⟨j, rfl⟩ : ∃ j, k = m1.length + j := ⟨k - m1.length, by omega⟩
      rw [show m1.length + j - (m1.length - 1) = j + 1 by omega, show m1.length + j - m1.length = j by omega]
      have hj := Nat.mod_lt j h2
      by_cases e : j % m2.length = m2.length - 1
      · have e0 : (j + 1) % m2.length = 0 := by
          rw [Nat.add_mod, e]
          by_cases h1 : m2.length = 1
          · rw [h1]
          · rw [Nat.mod_eq_of_lt (show 1 < m2.length by omega), show m2.length - 1 + 1 = m2.length by omega, Nat.mod_self]
        rw [e0, if_pos rfl, e, hv']
      · have e0 : (j + 1) % m2.length = j % m2.length + 1 := by
          rw [Nat.add_mod, Nat.mod_eq_of_lt (show 1 < m2.length by omega), Nat.mod_eq_of_lt (by omega)]
        rw [e0, if_neg (by omega), Nat.add_sub_cancel]
theorem RoundB.done {f : Nat → Int} {m1 m2 : List Int} (h : RoundB f m1 m2) (hd : ¬ (0 < m1.length ∧ m1.getD (m1.length - 1) 0 = m2.getD (m2.length - 1) 0)) : ShortFor f m1 m2 := by
  obtain ⟨h1, h2, h3⟩ := id h
  refine ⟨h1, h2, h3, fun n p p0 hp => ?_⟩
  rcases Nat.lt_or_ge n m1.length with hn | hn
  · exfalso
    apply hd
    refine ⟨by omega, ?_⟩
    obtain ⟨e1, e2⟩ := h.last (by omega)
    have hper : Per f m1.length m2.length := h1 ▸ bitOf_per m1 m2
    have hq := (hper.lower hp p0) (m1.length - 1) (by omega)
    rw [e1, e2] at hq
    exact hq.symm
  · exact hn

/-! ### The reference's way -/

/-- n bits of f from a on. -/
def bitsOf (f : Nat → Int) (a n : Nat) : List Int := (List.range n).map fun i => f (a + i)
theorem bitsOf_len (f : Nat → Int) (a n : Nat) : (bitsOf f a n).length = n := by simp [bitsOf]
theorem bitsOf_succ (f : Nat → Int) (a n : Nat) : bitsOf f a (n + 1) = bitsOf f a n ++ [f (a + n)] := by simp [bitsOf, List.range_succ]
theorem told_same {f : Nat → Int} {a g : Nat} (hg : 0 < g) : bitOf (bitsOf f 0 a) (bitsOf f a g) = f ↔ Per f a g := by
  constructor
  · intro h
    have := bitOf_per (bitsOf f 0 a) (bitsOf f a g)
    rwa [h, bitsOf_len, bitsOf_len] at this
  · intro h
    funext k
    unfold bitOf
    rw [bitsOf_len, bitsOf_len]
    by_cases hk : k < a
    · rw [if_pos hk]; simp [bitsOf, List.getD, hk]
    · rw [if_neg hk]
      have hm := Nat.mod_lt (k - a) hg
      have e := (h.iter ((k - a) / g)) (a + (k - a) % g) (by omega)
      have e2 : a + (k - a) % g + (k - a) / g * g = k := by have := Nat.mod_add_div (k - a) g; rw [Nat.mul_comm] at this; omega
      rw [e2] at e
      simp [bitsOf, List.getD, hm]
      exact e.symm
/-- The first pair of numbers that will do tells the short stream. -/
theorem told_short {l2 : List Int} {f : Nat → Int} {a g : Nat} (hg : 0 < g) (hgl : g ≤ l2.length) (hp : Per f a g) (hlow : ∀ a' g', a' < a → 0 < g' → g' ≤ l2.length → ¬ Per f a' g') (hlow' : ∀ g', 0 < g' → g' < g → ¬ Per f a g') :
    ShortFor f (bitsOf f 0 a) (bitsOf f a g) := by
  refine ⟨(told_same hg).2 hp, by rw [bitsOf_len]; exact hg, fun n p p0 h => ?_, fun n p p0 h => ?_⟩
  · rw [bitsOf_len]
    rcases Nat.lt_or_ge p g with e | e
    · exact absurd (h.lower hp hg) (hlow' p p0 e)
    · exact e
  · rw [bitsOf_len]
    rcases Nat.lt_or_ge n a with e | e
    · exact absurd (hp.lower h p0) (hlow n g e hg hgl)
    · exact e

/-- Two streams are the same if their first 156 bits are. -/
theorem same_156 {l1 l2 m1 m2 : List Int} (h : streamB l1 l2 = true) (k : streamB m1 m2 = true) (he : ∀ i, i < 156 → bitOf l1 l2 i = bitOf m1 m2 i) : bitOf l1 l2 = bitOf m1 m2 := by
  unfold streamB at h k
  simp only [Bool.and_eq_true, decide_eq_true_eq] at h k
  have p1 := ((bitOf_per l1 l2).mono (show l1.length ≤ 12 by omega)).iter m2.length
  have p2 := ((bitOf_per m1 m2).mono (show m1.length ≤ 12 by omega)).iter l2.length
  rw [Nat.mul_comm] at p2
  have hL : m2.length * l2.length ≤ 144 := Nat.mul_le_mul (show m2.length ≤ 12 by omega) (show l2.length ≤ 12 by omega)
  have h0 : 0 < m2.length * l2.length := Nat.mul_pos (by omega) (by omega)
  funext i
  induction i using Nat.strongRecOn with
  | ind i ih =>
    by_cases hi : i < 156
    · exact he i hi
    · have e1 := p1 (i - m2.length * l2.length) (by omega)
      have e2 := p2 (i - m2.length * l2.length) (by omega)
      rw [show i - m2.length * l2.length + m2.length * l2.length = i by omega] at e1 e2
      rw [e1, e2]
      exact ih _ (by omega)
end Go.Hyp
