/- Predicates on systems in memory (slices of pairs: a slice of numbers and a number), and plain lemmas. -/
import Derived.Test.YtgfoolneophkcaaLib
namespace Go.Hyp
open Go.RowKit Go.Deep

/-- The cells of a slice of sentences: names and a code. -/
def RdY (w : World) (B C : Nat) (a : Option Addr) (s : List (List Int × Int)) : Prop :=
  ∀ i, i < s.length → ∃ b off a' cap, a = some ⟨b, off, none⟩ ∧ B ≤ b ∧ b < C ∧ w.cell? ⟨b, off + i * 2, none⟩ = some (.slice a' (s.getD i ([], 0)).1.length cap) ∧
    w.cell? ⟨b, off + i * 2 + 1, none⟩ = some (.int .i64 (s.getD i ([], 0)).2) ∧ RdI w B C a' (s.getD i ([], 0)).1 ∧ (s.getD i ([], 0)).1.length ≤ maxLen
theorem RdY.agr {w w' : World} {B C : Nat} {a : Option Addr} {s : List (List Int × Int)} (h : RdY w B C a s) (k : Agr B C w w') : RdY w' B C a s := by
  intro i hi
  obtain ⟨b, off, a', cap, e, h1, h2, hc, hd, hr, hl⟩ := h i hi
  exact ⟨b, off, a', cap, e, h1, h2, by rw [World.cell?_of_block (w := w) (k b h1 h2)]; exact hc, by rw [World.cell?_of_block (w := w) (k b h1 h2)]; exact hd, hr.agr k, hl⟩
theorem RdY.mono {w : World} {B C B' C' : Nat} {a : Option Addr} {s : List (List Int × Int)} (h : RdY w B C a s) (h1 : B' ≤ B) (h2 : C ≤ C') : RdY w B' C' a s := by
  intro i hi
  obtain ⟨b, off, a', cap, e, g1, g2, hc, hd, hr, hl⟩ := h i hi
  exact ⟨b, off, a', cap, e, by omega, by omega, hc, hd, hr.mono h1 h2, hl⟩
theorem RdY.below {w w' : World} {B C D : Nat} {a : Option Addr} {s : List (List Int × Int)} (h : RdY w B C a s) (k : Below D w w') (hC : C ≤ D) : RdY w' B C a s := h.agr (agr_below k hC)
theorem RdY.at {w : World} {B C : Nat} {a : Option Addr} {s : List (List Int × Int)} (h : RdY w B C a s) (i : Nat) (hi : i < s.length) :
    ∃ b off a' cap, a = some ⟨b, off, none⟩ ∧ B ≤ b ∧ b < C ∧ w.cell? ⟨b, off + i * 2, none⟩ = some (.slice a' s[i].1.length cap) ∧
      w.cell? ⟨b, off + i * 2 + 1, none⟩ = some (.int .i64 s[i].2) ∧ RdI w B C a' s[i].1 ∧ s[i].1.length ≤ maxLen := by
  obtain ⟨b, off, a', cap, e, h1, h2, hc, hd, hr, hl⟩ := h i hi
  have eg : s.getD i ([], 0) = s[i] := by simp [List.getD, hi]
  rw [eg] at hc hd hr hl
  exact ⟨b, off, a', cap, e, h1, h2, hc, hd, hr, hl⟩

/-- A sentence of a system of n names; a system. -/
def saidB (n : Nat) (x : List Int × Int) : Bool := bitsB x.1 && decide (x.1.length = n) && (decide (0 ≤ x.2) && decide (x.2 ≤ 3))
def saidsB (n : Nat) (s : List (List Int × Int)) : Bool := s.all (saidB n)
theorem saidsB_succ (n : Nat) (s : List (List Int × Int)) (k : Nat) (h : k < s.length) : saidsB n (s.take (k + 1)) = (saidsB n (s.take k) && saidB n s[k]) := by
  unfold saidsB; rw [List.take_succ_eq_append_getElem h, List.all_append]; simp
theorem saidsB_no (n : Nat) (s : List (List Int × Int)) (k : Nat) (h : k < s.length) (hb : saidB n s[k] = false) : saidsB n s = false := by
  unfold saidsB; rw [List.all_eq_false]; exact ⟨s[k], List.getElem_mem h, by simp [hb]⟩
def sysB (s : List (List Int × Int)) : Bool := saidsB s.length s && (decide (1 ≤ s.length) && decide (s.length ≤ 3))
/-! ### Owning a system -/

/-- The slice of sentences stands at the head of a block of its own; each sentence's names lie in a block of their own. E: the numbers' type, T: the sentences'. -/
def OwY (w : World) (E T B C : Nat) (a : Option Addr) (cap : Nat) (s : List (List Int × Int)) : Prop :=
  ∃ (ra : Nat → Option Addr) (rc : Nat → Nat),
    ((a = none ∧ s = [] ∧ cap = 0) ∨ ∃ g G, a = some ⟨g, 0, none⟩ ∧ B ≤ g ∧ g < C ∧ w.rowIs g T (cap * 2) G ∧ s.length ≤ cap ∧ cap ≤ maxLen ∧
      ∀ i, i < s.length → G (i * 2) = .slice (ra i) (s.getD i ([], 0)).1.length (rc i) ∧ G (i * 2 + 1) = .int .i64 (s.getD i ([], 0)).2) ∧
    (∀ i, i < s.length → OwI w E B C (ra i) (rc i) (s.getD i ([], 0)).1) ∧ (∀ i j, i < j → j < s.length → Dis (ra i) (ra j)) ∧ (∀ i, i < s.length → Dis a (ra i))
theorem OwY.agr {w w' : World} {E T B C : Nat} {a : Option Addr} {cap : Nat} {s : List (List Int × Int)} (h : OwY w E T B C a cap s) (k : Agr B C w w') : OwY w' E T B C a cap s := by
  obtain ⟨ra, rc, h1, h2, h3⟩ := h
  refine ⟨ra, rc, ?_, fun i hi => (h2 i hi).agr k, h3⟩
  rcases h1 with h | ⟨g, F, e, g1, g2, hr, r⟩
  · exact .inl h
  · exact .inr ⟨g, F, e, g1, g2, hr.of_block (k g g1 g2), r⟩
theorem OwY.mono {w : World} {E T B C B' C' : Nat} {a : Option Addr} {cap : Nat} {s : List (List Int × Int)} (h : OwY w E T B C a cap s) (h1 : B' ≤ B) (h2 : C ≤ C') : OwY w E T B' C' a cap s := by
  obtain ⟨ra, rc, k1, k2, k3⟩ := h
  refine ⟨ra, rc, ?_, fun i hi => (k2 i hi).mono h1 h2, k3⟩
  rcases k1 with h | ⟨g, F, e, g1, g2, r⟩
  · exact .inl h
  · exact .inr ⟨g, F, e, by omega, by omega, r⟩
theorem OwY.below {w w' : World} {E T B C D : Nat} {a : Option Addr} {cap : Nat} {s : List (List Int × Int)} (h : OwY w E T B C a cap s) (k : Below D w w') (hC : C ≤ D) : OwY w' E T B C a cap s := h.agr (agr_below k hC)
theorem OwY.rd {w : World} {E T B C : Nat} {a : Option Addr} {cap : Nat} {s : List (List Int × Int)} (h : OwY w E T B C a cap s) : RdY w B C a s := by
  obtain ⟨ra, rc, h1, h2, _, _⟩ := h
  intro i hi
  rcases h1 with ⟨_, h0, _⟩ | ⟨g, F, e, g1, g2, hr, hl, _, hf⟩
  · rw [h0] at hi; simp at hi
  · exact ⟨g, 0, ra i, rc i, e, g1, g2, by rw [Nat.zero_add, hr.cell (by omega), (hf i hi).1], by rw [Nat.zero_add, hr.cell (by omega), (hf i hi).2], (h2 i hi).rd, (h2 i hi).len⟩
theorem OwY.not_block {w : World} {E T B C k : Nat} {a : Option Addr} {cap : Nat} {s : List (List Int × Int)} (h : OwY w E T B C a cap s) (hk : k < B ∨ C ≤ k) : blockOf a ≠ some k := by
  obtain ⟨ra, rc, h1, _⟩ := h
  rcases h1 with ⟨rfl, _⟩ | ⟨g, f, rfl, h1, h2, _⟩
  · simp [blockOf]
  · simp [blockOf]; omega
theorem OwY.block_in {w : World} {E T B C k : Nat} {a : Option Addr} {cap : Nat} {s : List (List Int × Int)} (h : OwY w E T B C a cap s) (hk : blockOf a = some k) : B ≤ k ∧ k < C := by
  obtain ⟨ra, rc, h1, _⟩ := h
  rcases h1 with ⟨rfl, _⟩ | ⟨g, f, rfl, h1, h2, _⟩
  · simp [blockOf] at hk
  · simp [blockOf] at hk; omega
theorem OwY_empty (w : World) (E T : Nat) : OwY (w.alloc (.cells #[] T)) E T w.heap.size (w.heap.size + 1) (some ⟨w.heap.size, 0, none⟩) 0 [] :=
  ⟨fun _ => none, fun _ => 0, .inr ⟨w.heap.size, fun _ => undef, rfl, Nat.le_refl _, Nat.lt_succ_self _, ⟨#[], alloc1 _ _, rfl, fun i hi => by omega⟩, Nat.le_refl _, by simp, fun i hi => by simp at hi⟩,
    fun i hi => by simp at hi, fun i j _ hj => by simp at hj, fun i hi => by simp at hi⟩

/-- The cells of sentences, in a row. -/
def saidCells (ra : Nat → Option Addr) (rc : Nat → Nat) (s : List (List Int × Int)) : List Value :=
  (List.range s.length).flatMap fun i => [.slice (ra i) (s.getD i ([], 0)).1.length (rc i), .int .i64 (s.getD i ([], 0)).2]
theorem sum_two (n : Nat) : ((List.range n).map fun _ => 2).sum = n * 2 := by
  induction n with
  | zero => rfl
  | succ n ih => rw [List.range_succ, List.map_append, List.sum_append, ih]; simp; omega
theorem flat_len (f : Nat → Value) (g : Nat → Value) (n : Nat) : ((List.range n).flatMap fun i => [f i, g i]).length = n * 2 := by
  rw [List.length_flatMap]; exact sum_two n
theorem flat_get (f : Nat → Value) (g : Nat → Value) (n i : Nat) (hi : i < n) :
    ((List.range n).flatMap fun i => [f i, g i])[i * 2]? = some (f i) ∧ ((List.range n).flatMap fun i => [f i, g i])[i * 2 + 1]? = some (g i) := by
  induction n with
  | zero => omega
  | succ n ih =>
    have hl := flat_len f g n
    rw [List.range_succ, List.flatMap_append]
    by_cases h : i < n
    · rw [List.getElem?_append_left (by omega), List.getElem?_append_left (by omega)]
      exact ih h
    · obtain rfl : i = n := by omega
      rw [List.getElem?_append_right (by omega), List.getElem?_append_right (by omega), hl]
      simp

section
variable {P : Program}
/-- append of one sentence, whose names lie in a block of their own, to a slice of sentences that the call owns. -/
theorem wpList_appY {E T Y : Nat} {z : Value} (hY : P.underlying Y = some (.slice T)) (hT : (P.info? T).map (fun i => (i.zero, i.size, i.bytes)) = some (some z, 2, 32)) (hz2 : z.cells.size = 2)
    (w : World) {ops : Array Oper} {rest : List Oper} {o : Oper} {a : Act} {Q : Exit → Act → World → Prop} (hgd : o.guard = none) (s x : Operand)
    (ho : o.op = .call { callee := .builtin .append, args := #[s, x], argTypes := #[Y, Y] }) (B C : Nat) (a0 : Option Addr) (cap : Nat) (l : List (List Int × Int)) (hs : a.eval s = .slice a0 l.length cap) (hown : OwY w E T B C a0 cap l)
    (hB : B ≤ w.heap.size) (hC : C ≤ w.heap.size) (ad : Addr) (an : Option Addr) (cn : Nat) (names : List Int) (code : Int) (hx : a.eval x = .slice (some ad) 1 1) (hn0 : w.cell? (ad.add 0) = some (.slice an names.length cn)) (hn1 : w.cell? (ad.add 1) = some (.int .i64 code))
    (Bn Cn : Nat) (hnames : OwI w E Bn Cn an cn names) (hBn : C ≤ Bn) (hBB : B ≤ Bn) (hCn : Cn ≤ w.heap.size) (hl : l.length ≤ 1048576)
    (h : ∀ (g cap' : Nat) (w' : World), OwY w' E T B w'.heap.size (some ⟨g, 0, none⟩) cap' (l ++ [(names, code)]) → w.grownBy w' (blockOf a0) → (blockOf a0 = some g ∨ g = w.heap.size) → g < w'.heap.size →
      wpList P ops Q rest (a.put o.dst (.slice (some ⟨g, 0, none⟩) (l.length + 1) cap')) w') : wpList P ops Q (o :: rest) a w := by
  obtain ⟨i, hi, hz, hs1, hb1⟩ := info_parts hT
  obtain ⟨ra, rc, h1, h2, h3, h4⟩ := id hown
  have howns : w.ownsRow B T 2 (.slice a0 l.length cap) l.length (saidCells ra rc l) := by
    refine ⟨flat_len _ _ _, ?_⟩
    rcases h1 with ⟨rfl, rfl, rfl⟩ | ⟨g, G, rfl, g1, g2, hr, hll, hm, hf⟩
    · exact .inl ⟨rfl, rfl⟩
    · obtain ⟨cur, c1, c2, c3⟩ := rowIs_take (n := l.length * 2) (xs := saidCells ra rc l) hr (by omega) (flat_len _ _ _) (fun j hj => by
        have e : j = j / 2 * 2 ∨ j = j / 2 * 2 + 1 := by omega
        have hj2 : j / 2 < l.length := by omega
        rcases e with e | e
        · rw [e, (hf _ hj2).1]; exact (flat_get _ _ _ _ hj2).1
        · rw [e, (hf _ hj2).2]; exact (flat_get _ _ _ _ hj2).2)
      exact .inr ⟨g, cap, cur, rfl, g1, c1, hll, hm, c2, c3⟩
  refine wpList_append_lies w hgd s x Y ho B T i _ 2 32 hY hi hz hs1 hb1 hz2 (by omega) _ l.length _ hs howns ad 1 1 [.slice an names.length cn, .int .i64 code] hx rfl ?_ (by simp [Value.oneCell']) (by omega) (by unfold maxLen; omega) (by omega) hB _ rfl ?_
  · intro j u hu
    match j, hu with
    | 0, hu => simp at hu; subst hu; exact hn0
    | 1, hu => simp at hu; subst hu; exact hn1
  · intro g cap' w' o2 o3 o4 o5
    rw [ownBlock_slice] at o3 o4
    have hlen : (l ++ [(names, code)]).length = l.length + 1 := by simp
    have hkeep : ∀ k, k < w.heap.size → blockOf a0 ≠ some k → w'.heap[k]? = w.heap[k]? := fun k hk hne => o3.block k hk (fun e => hne e.symm)
    have hg : B ≤ g := by
      rcases o4 with e | e
      · exact (hown.block_in e).1
      · omega
    refine h g cap' w' ⟨fun j => if j = l.length then an else ra j, fun j => if j = l.length then cn else rc j, .inr ?_, ?_, ?_, ?_⟩ o3 o4 o5
    · obtain ⟨hx1, hx2⟩ := o2
      rcases hx2 with ⟨e, _⟩ | ⟨g', c', cur, e, b1, b2, b3, b4, b5, b6⟩
      · cases e
      · cases e
        refine ⟨g, fun i => cur.toList.getD i undef, rfl, b1, o5, ⟨cur, b2, b5, fun i hi => ?_⟩, by omega, b4, fun i hi => ?_⟩
        · have hi' : i < cur.size := by omega
          simp [List.getD, hi']
        · rw [hlen] at hi
          have key : ∀ j, j < (l.length + 1) * 2 → cur.toList.getD j undef = (saidCells ra rc l ++ [Value.slice an names.length cn, Value.int .i64 code]).getD j undef := fun j hj => by
            rw [← b6]; simp only [List.getD, List.getElem?_take, if_pos hj]
          simp only [key _ (show i * 2 < _ by omega), key _ (show i * 2 + 1 < _ by omega)]
          have hfl : (saidCells ra rc l).length = l.length * 2 := flat_len _ _ _
          by_cases hil : i = l.length
          · subst hil
            simp only [if_true]
            simp [List.getD, List.getElem?_append_right, hfl]
          · have hi2 : i < l.length := by omega
            have f := flat_get (fun i => .slice (ra i) (l.getD i ([], 0)).1.length (rc i)) (fun i => .int .i64 (l.getD i ([], 0)).2) l.length i hi2
            have eg : (l ++ [(names, code)]).getD i ([], 0) = l.getD i ([], 0) := by simp [List.getD, List.getElem?_append_left hi2]
            simp only [if_neg hil, eg]
            unfold List.getD
            rw [List.getElem?_append_left (by omega), List.getElem?_append_left (by omega)]
            unfold saidCells
            rw [f.1, f.2]
            exact ⟨rfl, rfl⟩
    · intro i hi
      rw [hlen] at hi
      by_cases hil : i = l.length
      · subst hil
        simp only [if_true]
        have eg : (l ++ [(names, code)]).getD l.length ([], 0) = (names, code) := by simp [List.getD]
        rw [eg]
        exact (hnames.agr (fun k k1 k2 => hkeep k (by omega) (fun e => by have := hown.block_in e; omega))).mono (by omega) (Nat.le_trans hCn o3.size)
      · simp only [if_neg hil]
        have hi2 : i < l.length := by omega
        have eg : (l ++ [(names, code)]).getD i ([], 0) = l.getD i ([], 0) := by simp [List.getD, List.getElem?_append_left hi2]
        rw [eg]
        rcases h2 i hi2 with hn | ⟨gi, Gi, ei, q1, q2, qr, qq⟩
        · exact .inl hn
        · refine .inr ⟨gi, Gi, ei, q1, Nat.lt_of_lt_of_le q2 (Nat.le_trans hC o3.size), qr.of_block (hkeep gi (by omega) (fun e => ?_)), qq⟩
          cases a0 with
          | none => simp [blockOf] at e
          | some x0 =>
            have hd := h4 i hi2 x0 ⟨gi, 0, none⟩ rfl ei
            simp [blockOf] at e
            exact hd e
    · intro i j hij hj
      rw [hlen] at hj
      by_cases hjl : j = l.length
      · subst hjl
        simp only [if_true, if_neg (show i ≠ l.length by omega)]
        exact (h2 i (by omega)).dis hnames hBn
      · simp only [if_neg hjl, if_neg (show i ≠ l.length by omega)]
        exact h3 i j hij (by omega)
    · intro i hi x0 y0 hx0 hy0
      cases hx0
      rw [hlen] at hi
      show g ≠ y0.block
      by_cases hil : i = l.length
      · subst hil
        simp only [if_true] at hy0
        rcases hnames with ⟨e, _⟩ | ⟨gn, Gn, en, n1, n2, _⟩
        · rw [e] at hy0; cases hy0
        · rw [en] at hy0; cases hy0
          show g ≠ gn
          rcases o4 with e | e
          · have := hown.block_in e; omega
          · omega
      · simp only [if_neg hil] at hy0
        rcases h2 i (by omega) with ⟨e, _⟩ | ⟨gi, Gi, ei, q1, q2, _⟩
        · rw [e] at hy0; cases hy0
        · have hd := h4 i (by omega)
          rw [ei] at hy0; cases hy0
          show g ≠ gi
          rcases o4 with e | e
          · cases a0 with
            | none => simp [blockOf] at e
            | some x0 =>
              simp [blockOf] at e
              have := hd x0 ⟨gi, 0, none⟩ rfl ei
              rw [← e]; exact this
          · omega
end

/-- A sentence of an owned slice, as cells. -/
theorem OwY.at {w : World} {E T B C : Nat} {a : Option Addr} {cap : Nat} {s : List (List Int × Int)} (h : OwY w E T B C a cap s) (i : Nat) (hi : i < s.length) :
    ∃ g an cn, a = some ⟨g, 0, none⟩ ∧ B ≤ g ∧ g < C ∧ w.cell? ⟨g, i * 2, none⟩ = some (.slice an s[i].1.length cn) ∧ w.cell? ⟨g, i * 2 + 1, none⟩ = some (.int .i64 s[i].2) ∧ (∀ o, w.frozen? ⟨g, o, none⟩ = false) ∧ g < w.heap.size ∧ OwI w E B C an cn s[i].1 := by
  obtain ⟨ra, rc, h1, h2, _, _⟩ := h
  have eg : s.getD i ([], 0) = s[i] := by simp [List.getD, hi]
  rcases h1 with ⟨_, h0, _⟩ | ⟨g, F, e, g1, g2, hr, hl, _, hf⟩
  · subst h0; simp at hi
  · have hfi := hf i hi
    have h2i := h2 i hi
    rw [eg] at hfi h2i
    exact ⟨g, ra i, rc i, e, g1, g2, by rw [hr.cell (by omega), hfi.1], by rw [hr.cell (by omega), hfi.2], hr.frozen, hr.lt, h2i⟩
theorem set_get (s : List (List Int × Int)) (i j : Nat) (x : List Int × Int) (hj : j < s.length) : (s.set i x).getD j ([], 0) = if j = i then x else s.getD j ([], 0) := by
  unfold List.getD
  rw [List.getElem?_set]
  by_cases e : i = j
  · subst e; simp [hj]
  · rw [if_neg e, if_neg (fun h => e h.symm)]
/-- Another code in a sentence's place. -/
theorem OwY.setCode {w : World} {E T B C g : Nat} {cap : Nat} {s : List (List Int × Int)} (h : OwY w E T B C (some ⟨g, 0, none⟩) cap s) (i : Nat) (hi : i < s.length) (c : Int) :
    OwY (w.setCell ⟨g, i * 2 + 1, none⟩ (.int .i64 c)) E T B C (some ⟨g, 0, none⟩) cap (s.set i (s[i].1, c)) := by
  obtain ⟨ra, rc, h1, h2, h3, h4⟩ := h
  have hls : (s.set i (s[i].1, c)).length = s.length := by simp
  have eg : ∀ j, j < s.length → ((s.set i (s[i].1, c)).getD j ([], 0)).1 = (s.getD j ([], 0)).1 := fun j hj => by
    rw [set_get _ _ _ _ hj]
    by_cases e : j = i
    · subst e; simp [List.getD, hi]
    · rw [if_neg e]
  refine ⟨ra, rc, .inr ?_, ?_, by rwa [hls], by rwa [hls]⟩
  · rcases h1 with ⟨e, _⟩ | ⟨g', F, e, g1, g2, hr, hl, hm, hf⟩
    · cases e
    · cases e
      refine ⟨g, _, rfl, g1, g2, hr.set (i * 2 + 1) _, by omega, hm, fun j hj => ?_⟩
      rw [hls] at hj
      rw [eg j hj]
      refine ⟨by rw [if_neg (by omega), (hf j hj).1], ?_⟩
      rw [set_get _ _ _ _ hj]
      by_cases e : j = i
      · subst e; simp
      · rw [if_neg (by omega), if_neg e, (hf j hj).2]
  · intro j hj
    rw [hls] at hj
    rw [eg j hj]
    rcases h2 j hj with hn | ⟨gj, Gj, ej, q1, q2, qr, qq⟩
    · exact .inl hn
    · have hd : g ≠ gj := h4 j hj ⟨g, 0, none⟩ ⟨gj, 0, none⟩ rfl ej
      exact .inr ⟨gj, Gj, ej, q1, q2, qr.setOther (a := ⟨g, i * 2 + 1, none⟩) (fun e => hd e.symm) _, qq⟩
/-- A whole new sentence in one's place, its names in a block made since. -/
theorem OwY.setSaid {w : World} {E T B C g : Nat} {cap : Nat} {s : List (List Int × Int)} (h : OwY w E T B C (some ⟨g, 0, none⟩) cap s) (i : Nat) (hi : i < s.length) (an : Option Addr) (cn : Nat) (names : List Int) (c : Int) (Bn Cn : Nat)
    (hn : OwI w E Bn Cn an cn names) (hBn : C ≤ Bn) (hBB : B ≤ Bn) (hCC : C ≤ Cn) :
    OwY ((w.setCell ⟨g, i * 2, none⟩ (.slice an names.length cn)).setCell ⟨g, i * 2 + 1, none⟩ (.int .i64 c)) E T B Cn (some ⟨g, 0, none⟩) cap (s.set i (names, c)) := by
  obtain ⟨ra, rc, h1, h2, h3, h4⟩ := id h
  have hls : (s.set i (names, c)).length = s.length := by simp
  have hg : B ≤ g ∧ g < C := h.block_in rfl
  refine ⟨fun j => if j = i then an else ra j, fun j => if j = i then cn else rc j, .inr ?_, ?_, ?_, ?_⟩
  · rcases h1 with ⟨e, _⟩ | ⟨g', F, e, g1, g2, hr, hl, hm, hf⟩
    · cases e
    · cases e
      refine ⟨g, _, rfl, g1, by omega, (hr.set (i * 2) _).set (i * 2 + 1) _, by omega, hm, fun j hj => ?_⟩
      rw [hls] at hj
      rw [set_get _ _ _ _ hj]
      by_cases e : j = i
      · subst e; simp
      · have n1 : ¬ j * 2 = i * 2 + 1 := by omega
        have n2 : ¬ j * 2 = i * 2 := by omega
        have n3 : ¬ j * 2 + 1 = i * 2 + 1 := by omega
        have n4 : ¬ j * 2 + 1 = i * 2 := by omega
        simp only [if_neg e, if_neg n1, if_neg n2, if_neg n3, if_neg n4]
        exact hf j hj
  · intro j hj
    rw [hls] at hj
    rw [set_get _ _ _ _ hj]
    by_cases e : j = i
    · subst e
      simp only [↓reduceIte]
      have hA : Agr Bn Cn w ((w.setCell ⟨g, j * 2, none⟩ (.slice an names.length cn)).setCell ⟨g, j * 2 + 1, none⟩ (.int .i64 c)) := ((Agr.refl Bn Cn w).set (.inl (by omega)) _).set (.inl (by omega)) _
      exact (hn.agr hA).mono hBB (Nat.le_refl _)
    · simp only [if_neg e]
      rcases h2 j hj with hn | ⟨gj, Gj, ej, q1, q2, qr, qq⟩
      · exact .inl hn
      · have hd : g ≠ gj := h4 j hj ⟨g, 0, none⟩ ⟨gj, 0, none⟩ rfl ej
        have hC : gj < Cn := by omega
        exact .inr ⟨gj, Gj, ej, q1, hC, (qr.setOther (a := ⟨g, i * 2, none⟩) (fun e => hd e.symm) _).setOther (a := ⟨g, i * 2 + 1, none⟩) (fun e => hd e.symm) _, qq⟩
  · intro j k hjk hk
    rw [hls] at hk
    by_cases e : k = i
    · subst e
      simp only [↓reduceIte, if_neg (show j ≠ k by omega)]
      exact (h2 j (by omega)).dis hn hBn
    · by_cases e' : j = i
      · subst e'
        simp only [↓reduceIte, if_neg e]
        intro x y hx hy hxy
        exact (h2 k hk).dis hn hBn y x hy hx hxy.symm
      · simp only [if_neg e, if_neg e']
        exact h3 j k hjk hk
  · intro j hj x y hx hy
    rw [hls] at hj
    cases hx
    by_cases e : j = i
    · subst e
      simp only [↓reduceIte] at hy
      rcases hn with ⟨e, _⟩ | ⟨gn, Gn, en, n1, n2, _⟩
      · rw [e] at hy; cases hy
      · rw [en] at hy; cases hy
        show g ≠ gn; omega
    · simp only [if_neg e] at hy
      exact h4 j hj _ _ rfl hy
/-- A sentence's names emptied. -/
theorem OwY.noNames {w : World} {E T B C g : Nat} {cap : Nat} {s : List (List Int × Int)} (h : OwY w E T B C (some ⟨g, 0, none⟩) cap s) (i : Nat) (hi : i < s.length) (an : Option Addr) (cn : Nat) :
    RdY (w.setCell ⟨g, i * 2, none⟩ (.slice an 0 cn)) B C (some ⟨g, 0, none⟩) (s.set i ([], s[i].2)) := by
  obtain ⟨ra, rc, h1, h2, h3, h4⟩ := h
  intro j hj
  have hls : (s.set i ([], s[i].2)).length = s.length := by simp
  rw [hls] at hj
  rcases h1 with ⟨e, _⟩ | ⟨g', F, e, g1, g2, hr, hl, hm, hf⟩
  · cases e
  · cases e
    have hr' := hr.set (i * 2) (.slice an 0 cn)
    rw [set_get _ _ _ _ hj]
    by_cases e : j = i
    · subst e
      have eg : s.getD j ([], 0) = s[j] := by simp [List.getD, hj]
      refine ⟨g, 0, an, cn, rfl, g1, g2, by rw [Nat.zero_add, hr'.cell (by omega)]; simp, ?_, by simp; exact fun i hi => by simp at hi, by simp⟩
      rw [Nat.zero_add, hr'.cell (by omega), if_neg (by omega), (hf j hj).2, eg]; simp
    · refine ⟨g, 0, ra j, rc j, rfl, g1, g2, ?_, ?_, ?_, ?_⟩
      · rw [Nat.zero_add, hr'.cell (by omega), if_neg (by omega), (hf j hj).1, if_neg e]
      · rw [Nat.zero_add, hr'.cell (by omega), if_neg (by omega), (hf j hj).2, if_neg e]
      · rw [if_neg e]
        rcases h2 j hj with hn | ⟨gj, Gj, ej, q1, q2, qr, qq⟩
        · exact OwI.rd (E := E) (cap := rc j) (.inl hn)
        · have hd : g ≠ gj := h4 j hj ⟨g, 0, none⟩ ⟨gj, 0, none⟩ rfl ej
          exact OwI.rd (E := E) (cap := rc j) (.inr ⟨gj, Gj, ej, q1, q2, qr.setOther (a := ⟨g, i * 2, none⟩) (fun e => hd e.symm) _, qq⟩)
      · rw [if_neg e]; exact (h2 j hj).len
end Go.Hyp
