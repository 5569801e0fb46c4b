/- Owned rows of bits: what a cell of theirs is, what a store makes of them, and append of a row. -/
import Derived.Test.YtiiohodkfipfbaaGreatDoorGr
import Derived.Test.YtiiohodkfipfbaaGreatDoorMark
namespace Go.Hyp
open Go.RowKit Go.Deep

/-! ### rows -/
/-- A row of bits. -/
def rowOf (m : Nat) (f : Nat → Bool) : List Int := (List.range m).map fun j => if f j then 1 else 0
theorem rowOf_len (m : Nat) (f : Nat → Bool) : (rowOf m f).length = m := by simp [rowOf]
theorem rowOf_get (m : Nat) (f : Nat → Bool) (j : Nat) (h : j < (rowOf m f).length) : (rowOf m f)[j] = if f j then 1 else 0 := by simp [rowOf]
theorem rowOf_take (m : Nat) (f : Nat → Bool) (j : Nat) (h : j < m) : (rowOf m f).take (j + 1) = (rowOf m f).take j ++ [if f j then 1 else 0] := by
  rw [List.take_succ_eq_append_getElem (by rw [rowOf_len]; exact h), rowOf_get]
theorem rowOf_all (m : Nat) (f : Nat → Bool) : (rowOf m f).take m = rowOf m f := List.take_of_length_le (by rw [rowOf_len]; exact Nat.le_refl _)
theorem rowOf_congr {m : Nat} {f g : Nat → Bool} (h : ∀ j, j < m → f j = g j) : rowOf m f = rowOf m g := by
  unfold rowOf
  apply List.map_congr_left
  intro j hj
  rw [h j (by simpa using hj)]
theorem mat_get (n m : Nat) (f : Nat → Nat → Bool) (i : Nat) (h : i < (mat n m f).length) : (mat n m f)[i] = rowOf m (f i) := by simp [mat, rowOf]
theorem mat_get? (n m : Nat) (f : Nat → Nat → Bool) (i : Nat) (h : i < n) : (mat n m f).getD i [] = rowOf m (f i) := mat_getD n m f i h
theorem mat_take (n m : Nat) (f : Nat → Nat → Bool) (i : Nat) (h : i < n) : (mat n m f).take (i + 1) = (mat n m f).take i ++ [rowOf m (f i)] := by
  rw [List.take_succ_eq_append_getElem (by rw [mat_len]; exact h), mat_get]
theorem mat_all (n m : Nat) (f : Nat → Nat → Bool) : (mat n m f).take n = mat n m f := List.take_of_length_le (by rw [mat_len]; exact Nat.le_refl _)

/-! ### reading square rows of bits -/
theorem RdII.bit {w : World} {B C : Nat} {a : Option Addr} {p : List (List Int)} (h : RdII w B C a p) (hs : Sq p) (i j : Nat) (hi : i < p.length) (hj : j < p.length) :
    ∃ b off b' off' cap, a = some ⟨b, off, none⟩ ∧ B ≤ b ∧ b < C ∧ w.cell? ⟨b, off + i, none⟩ = some (.slice (some ⟨b', off', none⟩) p.length cap) ∧ B ≤ b' ∧ b' < C ∧ w.cell? ⟨b', off' + j, none⟩ = some (.int .i64 (if arr p i j then 1 else 0)) := by
  obtain ⟨b, off, a', cap, e, h1, h2, hc, hr, hl⟩ := h i hi
  have hrow := hs.row i hi
  have e' : p.getD i [] = p[i] := by simp [List.getD, hi]
  rw [e', hrow.1] at hc
  obtain ⟨b', off', ea, h1', h2', hc'⟩ := hr j (by rw [e', hrow.1]; exact hj)
  rw [hs.bit i j hi hj] at hc'
  subst ea
  exact ⟨b, off, b', off', cap, e, h1, h2, hc, h1', h2', hc'⟩
theorem RdII.rowAt {w : World} {B C : Nat} {a : Option Addr} {p : List (List Int)} (h : RdII w B C a p) (hs : Sq p) (i : Nat) (hi : i < p.length) :
    ∃ b off a' cap, a = some ⟨b, off, none⟩ ∧ B ≤ b ∧ b < C ∧ w.cell? ⟨b, off + i, none⟩ = some (.slice a' p.length cap) ∧ RdI w B C a' (rowOf p.length (arr p i)) := by
  obtain ⟨b, off, a', cap, e, h1, h2, hc, hr, hl⟩ := h i hi
  have hrow := hs.row i hi
  have e' : p.getD i [] = p[i] := by simp [List.getD, hi]
  rw [e', hrow.1] at hc
  have er : p[i] = rowOf p.length (arr p i) := by
    have := hs.eq_mat
    have h2 : p[i] = (mat p.length p.length (arr p))[i]'(by rw [mat_len]; exact hi) := by congr 1
    rw [h2, mat_get]
  rw [e', er] at hr
  exact ⟨b, off, a', cap, e, h1, h2, hc, hr⟩

/-! ### owned rows -/
theorem OwII.len {w : World} {E R B C : Nat} {a : Option Addr} {cap : Nat} {p : List (List Int)} (h : OwII w E R B C a cap p) : p.length ≤ maxLen := by
  obtain ⟨ra, rc, h1, _⟩ := h
  rcases h1 with ⟨_, h0, _⟩ | ⟨g, F, _, _, _, _, h5, h6, _⟩ <;> omega
theorem OwII.nilcap {w : World} {E R B C : Nat} {a : Option Addr} {cap : Nat} {p : List (List Int)} (h : OwII w E R B C a cap p) : a = none → cap = 0 := by
  intro e
  obtain ⟨ra, rc, h1, _⟩ := h
  rcases h1 with ⟨_, _, h⟩ | ⟨g, F, h, _⟩
  · exact h
  · rw [h] at e; cases e
theorem OwII.block_in {w : World} {E R B C k : Nat} {a : Option Addr} {cap : Nat} {p : List (List Int)} (h : OwII w E R B C a cap p) (hk : blockOf a = some k) : B ≤ k ∧ k < C := by
  obtain ⟨ra, rc, h1, _⟩ := h
  rcases h1 with ⟨rfl, _⟩ | ⟨g, F, rfl, h1, h2, _⟩
  · simp [blockOf] at hk
  · simp [blockOf] at hk; omega
theorem OwII_nil (w : World) (E R B C : Nat) : OwII w E R B C none 0 [] := ⟨fun _ => none, fun _ => 0, .inl ⟨rfl, rfl, rfl⟩, fun i hi => by simp at hi, fun i j _ hj => by simp at hj, fun i hi => by simp at hi⟩
theorem OwII_empty (w : World) (E R : Nat) : OwII (w.alloc (.cells #[] R)) E R w.heap.size (w.heap.size + 1) (some ⟨w.heap.size, 0, none⟩) 0 [] :=
  ⟨fun _ => none, fun _ => 0, .inr ⟨w.heap.size, fun _ => undef, rfl, Nat.le_refl _, Nat.lt_succ_self _, ⟨#[], alloc1 _ _, rfl, fun i hi => by omega⟩, Nat.le_refl _, by simp, fun i hi => by simp at hi⟩, fun i hi => by simp at hi, fun i j _ hj => by simp at hj, fun i hi => by simp at hi⟩
theorem OwI_nil (w : World) (E B C : Nat) : OwI w E B C none 0 [] := .inl ⟨rfl, rfl, rfl⟩

/-- A cell of owned rows, and what a store there makes of them. -/
theorem OwII.at2 {w : World} {E R B C : Nat} {a : Option Addr} {cap : Nat} {p : List (List Int)} (h : OwII w E R B C a cap p) (i j : Nat) (hi : i < p.length) (hj : j < (p.getD i []).length) :
    ∃ g f ci, a = some ⟨g, 0, none⟩ ∧ B ≤ g ∧ g < C ∧ g < w.heap.size ∧ w.cell? ⟨g, i, none⟩ = some (.slice (some ⟨f, 0, none⟩) (p.getD i []).length ci) ∧ B ≤ f ∧ f < C ∧ f < w.heap.size ∧
      w.cell? ⟨f, j, none⟩ = some (.int .i64 ((p.getD i []).getD j 0)) ∧ w.frozen? ⟨f, j, none⟩ = false ∧ g ≠ f ∧
      ∀ x, OwII (w.setCell ⟨f, j, none⟩ (.int .i64 x)) E R B C a cap (p.set i ((p.getD i []).set j x)) := by
  obtain ⟨ra, rc, h1, h2, h3, h4⟩ := h
  rcases h1 with ⟨_, h0, _⟩ | ⟨g, F, e, g1, g2, hr, hl, hm, hf⟩
  · omega
  · have hi2 := h2 i hi
    rcases id hi2 with ⟨_, hn, _⟩ | ⟨f, G, ef, f1, f2, fr, fl, fm, ff⟩
    · rw [hn] at hj; simp at hj
    · have hgf : g ≠ f := h4 i hi _ _ e ef
      refine ⟨g, f, rc i, e, g1, g2, hr.lt, by rw [hr.cell (by omega), hf i hi]; show some (Value.slice (ra i) _ _) = _; rw [ef], f1, f2, fr.lt, by rw [fr.cell (by omega), ff j hj], fr.frozen j, hgf, fun x => ?_⟩
      have hls : (p.set i ((p.getD i []).set j x)).length = p.length := by simp
      have eg : ∀ k, k < p.length → (p.set i ((p.getD i []).set j x)).getD k [] = if k = i then (p.getD i []).set j x else p.getD k [] := fun k hk => by
        unfold List.getD
        rw [List.getElem?_set]
        by_cases e : i = k
        · subst e; simp [hk]
        · rw [if_neg e, if_neg (fun h => e h.symm)]
      refine ⟨ra, rc, .inr ⟨g, F, e, g1, g2, hr.setOther (a := ⟨f, j, none⟩) hgf _, by omega, hm, fun k hk => ?_⟩, fun k hk => ?_, fun k m hkm hm' => h3 k m hkm (by omega), fun k hk => h4 k (by omega)⟩
      · rw [hls] at hk
        rw [hf k hk]
        show Value.slice (ra k) (p.getD k []).length (rc k) = Value.slice (ra k) (List.getD _ k []).length (rc k)
        rw [eg k hk]
        by_cases e : k = i
        · subst e; rw [if_pos rfl]; simp
        · rw [if_neg e]
      · rw [hls] at hk
        rw [eg k hk]
        by_cases ek : k = i
        · subst ek
          rw [if_pos rfl]
          have := OwI.setAt (ef ▸ hi2) j hj x
          rw [ef]; exact this
        · rw [if_neg ek]
          rcases h2 k hk with hn | ⟨gk, Gk, ek', q1, q2, qr, qq⟩
          · exact .inl hn
          · have hd : gk ≠ f := by
              rcases Nat.lt_or_gt_of_ne ek with hlt | hlt
              · exact h3 k i hlt hi _ _ ek' ef
              · exact fun e => (h3 i k hlt hk _ _ ef ek') e.symm
            exact .inr ⟨gk, Gk, ek', q1, q2, qr.setOther (a := ⟨f, j, none⟩) hd _, qq⟩
theorem mat_set (n m : Nat) (f g : Nat → Nat → Bool) (i j : Nat) (hi : i < n) (b : Bool) (hg : ∀ x y, x < n → y < m → g x y = if x = i ∧ y = j then b else f x y) :
    (mat n m f).set i ((rowOf m (f i)).set j (if b then 1 else 0)) = mat n m g := by
  apply List.ext_getElem (by simp [mat_len])
  intro x h1 h2
  have hx : x < n := by rw [mat_len] at h2; exact h2
  rw [mat_get, List.getElem_set]
  by_cases e : i = x
  · subst e
    rw [if_pos rfl]
    apply List.ext_getElem (by simp [rowOf_len])
    intro y k1 k2
    have hy : y < m := by rw [rowOf_len] at k2; exact k2
    rw [List.getElem_set, rowOf_get m (g i) y k2, hg i y hx hy]
    by_cases e : j = y
    · subst e; simp
    · have e2 : ¬ (i = i ∧ y = j) := fun h => e h.2.symm
      rw [if_neg e, rowOf_get, if_neg e2]
  · rw [if_neg e, mat_get]
    refine rowOf_congr fun y hy => ?_
    rw [hg x y hx hy, if_neg (fun h => e h.1.symm)]
/-- The same of bits. -/
theorem OwII.bitAt {w : World} {E R B C : Nat} {a : Option Addr} {cap n m : Nat} {f : Nat → Nat → Bool} (h : OwII w E R B C a cap (mat n m f)) (i j : Nat) (hi : i < n) (hj : j < m) :
    ∃ g r ci, a = some ⟨g, 0, none⟩ ∧ B ≤ g ∧ g < C ∧ g < w.heap.size ∧ w.cell? ⟨g, i, none⟩ = some (.slice (some ⟨r, 0, none⟩) m ci) ∧ B ≤ r ∧ r < C ∧ r < w.heap.size ∧
      w.cell? ⟨r, j, none⟩ = some (.int .i64 (if f i j then 1 else 0)) ∧ w.frozen? ⟨r, j, none⟩ = false ∧ g ≠ r ∧
      ∀ (b : Bool) (g' : Nat → Nat → Bool), (∀ x y, x < n → y < m → g' x y = if x = i ∧ y = j then b else f x y) → OwII (w.setCell ⟨r, j, none⟩ (.int .i64 (if b then 1 else 0))) E R B C a cap (mat n m g') := by
  have e := mat_get? n m f i hi
  obtain ⟨g, r, ci, h1, h2, h3, h4, h5, h6, h7, h8, h9, h10, h11, h12⟩ := h.at2 i j (by rw [mat_len]; exact hi) (by rw [e, rowOf_len]; exact hj)
  rw [e, rowOf_len] at h5
  rw [e] at h9 h12
  have e2 : (rowOf m (f i)).getD j 0 = if f i j then 1 else 0 := by
    rw [getD_lt (by rw [rowOf_len]; exact hj), rowOf_get]
  rw [e2] at h9
  refine ⟨g, r, ci, h1, h2, h3, h4, h5, h6, h7, h8, h9, h10, h11, fun b g' hg => ?_⟩
  have := h12 (if b then 1 else 0)
  rwa [mat_set n m f g' i j hi b hg] at this

section
variable {P : Program}
/-- append of one row, which lies in a block of its own, to rows that the call owns. -/
theorem appII_of {E R B C : Nat} {w w' : World} {a0 a1 : Option Addr} {cap cap' : Nat} {p : List (List Int)} {l : List Int} {ar : Option Addr} {cr Br Cr : Nat} {ra : Nat → Option Addr} {rc : Nat → Nat}
    (h1 : OwV w R B C a0 cap p.length (fun i => .slice (ra i) (p.getD i []).length (rc i))) (h2 : ∀ i, i < p.length → OwI w E B C (ra i) (rc i) (p.getD i [])) (h3 : ∀ i j, i < j → j < p.length → Dis (ra i) (ra j)) (h4 : ∀ i, i < p.length → Dis a0 (ra i))
    (hC : C ≤ w.heap.size) (hrow : OwI w E Br Cr ar cr l) (hBr : C ≤ Br) (hBB : B ≤ Br) (hCr : Cr ≤ w.heap.size)
    (hv : OwV w' R B w'.heap.size a1 cap' (p.length + 1) (fun i => if i < p.length then .slice (ra i) (p.getD i []).length (rc i) else [Value.slice ar l.length cr].getD (i - p.length) undef))
    (hg : w.grownBy w' (blockOf a0)) (hb : blockOf a1 = blockOf a0 ∨ blockOf a1 = some w.heap.size) : OwII w' E R B w'.heap.size a1 cap' (p ++ [l]) := by
  have h : OwII w E R B C a0 cap p := ⟨ra, rc, h1, h2, h3, h4⟩
  have hkeep : ∀ k, k < w.heap.size → blockOf a0 ≠ some k → w'.heap[k]? = w.heap[k]? := fun k hk hne => hg.block k hk (fun e => hne e.symm)
  have hlen : (p ++ [l]).length = p.length + 1 := by simp
  have eg : ∀ i, i < p.length → (p ++ [l]).getD i [] = p.getD i [] := fun i hi => by simp [List.getD, List.getElem?_append_left hi]
  have el : (p ++ [l]).getD p.length [] = l := by simp [List.getD]
  refine ⟨fun j => if j = p.length then ar else ra j, fun j => if j = p.length then cr else rc j, ?_, ?_, ?_, ?_⟩
  · rw [hlen]
    refine hv.congr fun i hi => ?_
    by_cases e : i = p.length
    · subst e; simp
    · have hi' : i < p.length := by omega
      rw [if_pos hi', eg i hi']; simp only [if_neg e]
  · intro i hi
    rw [hlen] at hi
    by_cases e : i = p.length
    · subst e
      simp only [if_true, el]
      exact (hrow.agr (fun k k1 k2 => hkeep k (by omega) (fun e => by have := h.block_in e; omega))).mono (by omega) (Nat.le_trans hCr hg.size)
    · have hi' : i < p.length := by omega
      simp only [if_neg e]
      rw [eg i hi']
      rcases h2 i hi' with hn | ⟨gi, Gi, ei, q1, q2, qr, qq⟩
      · exact .inl hn
      · refine .inr ⟨gi, Gi, ei, q1, Nat.lt_of_lt_of_le q2 (Nat.le_trans hC hg.size), qr.of_block (hkeep gi (by omega) (fun e => ?_)), qq⟩
        cases a0 with
        | none => simp [blockOf] at e
        | some x0 =>
          have hd := h4 i hi' x0 ⟨gi, 0, none⟩ rfl ei
          simp [blockOf] at e
          exact hd e
  · intro i j hij hj
    rw [hlen] at hj
    by_cases e : j = p.length
    · subst e
      simp only [if_true, if_neg (show i ≠ p.length by omega)]
      exact (h2 i (by omega)).dis hrow hBr
    · simp only [if_neg e, if_neg (show i ≠ p.length by omega)]
      exact h3 i j hij (by omega)
  · intro i hi x y hx hy
    rw [hlen] at hi
    have hx' : blockOf a1 = some x.block := by rw [hx]; rfl
    have key : ∀ k, k < w.heap.size → (blockOf a0 = some k → False) → x.block ≠ k := by
      intro k hk hn e
      rcases hb with hb | hb
      · rw [hb, e] at hx'; exact hn hx'
      · rw [hb] at hx'; simp at hx'; omega
    by_cases e : i = p.length
    · subst e
      simp only [if_true] at hy
      rcases hrow with ⟨e, _⟩ | ⟨gn, Gn, en, n1, n2, _⟩
      · rw [e] at hy; cases hy
      · rw [en] at hy; cases hy
        exact key gn (by omega) (fun e => by have := h.block_in e; omega)
    · simp only [if_neg e] at hy
      rcases h2 i (by omega) with ⟨e, _⟩ | ⟨gi, Gi, ei, q1, q2, _⟩
      · rw [e] at hy; cases hy
      · have hd := h4 i (by omega)
        rw [ei] at hy; cases hy
        refine key gi (by omega) (fun e => ?_)
        cases a0 with
        | none => simp [blockOf] at e
        | some x0 =>
          simp [blockOf] at e
          exact hd x0 ⟨gi, 0, none⟩ rfl ei e
theorem blockOf_some {a1 : Option Addr} {k : Nat} (h : blockOf a1 = some k) : ∃ o s, a1 = some ⟨k, o, s⟩ := by
  cases a1 with
  | none => simp [blockOf] at h
  | some x => obtain ⟨b, o, s⟩ := x; simp [blockOf] at h; subst h; exact ⟨o, s, rfl⟩
theorem wpList_appII {E R S : Nat} (hT : P.underlying S = some (.slice R)) (hE : (P.info? R).map (fun i => (i.zero, i.size, i.bytes)) = some (some (.slice none 0 0), 1, 24))
    (w : World) {ops : Array Oper} {rest : List Oper} {o : Oper} {a : Act} {Q : Exit → Act → World → Prop} (hgd : o.guard = none) (s x : Operand)
    (ho : o.op = .call { callee := .builtin .append, args := #[s, x], argTypes := #[S, S] }) (B C : Nat) (a0 : Option Addr) (cap : Nat) (p : List (List Int)) (hs : a.eval s = .slice a0 p.length cap) (hown : OwII w E R B C a0 cap p)
    (hB : B ≤ w.heap.size) (hC : C ≤ w.heap.size) (ad : Addr) (ar : Option Addr) (cr : Nat) (l : List Int) (hx : a.eval x = .slice (some ad) 1 1) (hnew : w.cell? (ad.add 0) = some (.slice ar l.length cr))
    (Br Cr : Nat) (hrow : OwI w E Br Cr ar cr l) (hBr : C ≤ Br) (hBB : B ≤ Br) (hCr : Cr ≤ w.heap.size) (hl : p.length ≤ 1048576)
    (h : ∀ a1 cap' (w' : World), OwII w' E R B w'.heap.size a1 cap' (p ++ [l]) → w.grownBy w' (blockOf a0) → (blockOf a1 = blockOf a0 ∨ blockOf a1 = some w.heap.size) →
      wpList P ops Q rest (a.put o.dst (.slice a1 (p.length + 1) cap')) w') : wpList P ops Q (o :: rest) a w := by
  obtain ⟨ra, rc, h1, h2, h3, h4⟩ := id hown
  refine wpList_plain hgd fun K hK => wp_appVs hT hE rfl (by omega) w s x ho B C a0 cap p.length (fun i => .slice (ra i) (p.getD i []).length (rc i)) hs h1 hB (some ad) 1 1 [.slice ar l.length cr] hx rfl ?_ (fun e => by cases e) (by simp [Value.oneCell']) (by omega) ?_
  · intro ad' e j u hu
    cases e
    match j, hu with
    | 0, hu => simp at hu; subst hu; exact hnew
  · intro a1 cap' w' hv hg hb
    exact hK _ _ (h a1 cap' w' (appII_of h1 h2 h3 h4 hC hrow hBr hBB hCr hv hg hb) hg hb)
end
theorem retII_of {E R : Nat} {p q : List (List Int)} {w w' : World} {a : Option Addr} {c : Nat} (e : p = q) (h : OwII w' E R w.heap.size w'.heap.size a c p) (hb : Below w.heap.size w w') : RetII E R q w (.returned (.slice a p.length c)) w' := by
  subst e; exact ⟨a, c, rfl, h, hb⟩
/-- A call that hands back new rows and a truth. -/
def RetIIB (E R : Nat) (p : List (List Int)) (b : Bool) (w : World) (e : Ending) (w' : World) : Prop :=
  ∃ a c, e = .returned (.tuple #[.slice a p.length c, .bool b]) ∧ OwII w' E R w.heap.size w'.heap.size a c p ∧ Below w.heap.size w w'
theorem retIIB_of {E R : Nat} {p q : List (List Int)} {b : Bool} {w w' : World} {a : Option Addr} {c : Nat} (e : p = q) (h : OwII w' E R w.heap.size w'.heap.size a c p) (hb : Below w.heap.size w w') : RetIIB E R q b w (.returned (.tuple #[.slice a p.length c, .bool b])) w' := by
  subst e; exact ⟨a, c, rfl, h, hb⟩
theorem retI_of {E : Nat} {l m : List Int} {w w' : World} {a : Option Addr} {c : Nat} (e : l = m) (h : OwI w' E w.heap.size w'.heap.size a c l) (hb : Below w.heap.size w w') : RetI E m w (.returned (.slice a l.length c)) w' := by
  subst e; exact ⟨a, c, rfl, h, hb⟩
/-- A new row of zeros. -/
theorem OwI_zeros (w : World) (E n : Nat) (hn : n ≤ maxLen) : OwI (w.alloc (.cells (madeCells #[.int .i64 0] n) E)) E w.heap.size (w.heap.size + 1) (some ⟨w.heap.size, 0, none⟩) n (rowOf n fun _ => false) :=
  .inr ⟨_, _, rfl, Nat.le_refl _, Nat.lt_succ_self _, World.rowIs_made w _ _ _, by rw [rowOf_len]; exact Nat.le_refl _, hn, fun i hi => by rw [getD_lt hi, rowOf_get]; rfl⟩
theorem new_cellE {k : Nat} (w : World) (v : Value) (E : Nat) (hk : k = w.heap.size) : (w.alloc (.cells #[v] E)).cell? ((⟨k, 0, none⟩ : Addr).add 0) = some v := by subst hk; exact new_cell w v E
/-- A call that hands back new rows of bits, n of m. -/
def RetM (E R n m : Nat) (f : Nat → Nat → Bool) (w : World) (e : Ending) (w' : World) : Prop :=
  ∃ a cap, e = .returned (.slice a n cap) ∧ OwII w' E R w.heap.size w'.heap.size a cap (mat n m f) ∧ Below w.heap.size w w'
theorem retM_of {E R n m : Nat} {f g : Nat → Nat → Bool} {w w' : World} {a : Option Addr} {c : Nat} (h : OwII w' E R w.heap.size w'.heap.size a c (mat n m g)) (hb : Below w.heap.size w w') (e : ∀ x y, x < n → y < m → g x y = f x y) : RetM E R n m f w (.returned (.slice a n c)) w' :=
  ⟨a, c, rfl, mat_congr e ▸ h, hb⟩
theorem RetII.toM {E R n m : Nat} {f : Nat → Nat → Bool} {w w' : World} {e : Ending} (h : RetII E R (mat n m f) w e w') : RetM E R n m f w e w' := by
  obtain ⟨a, c, h1, h2, h3⟩ := h
  rw [mat_len] at h1
  exact ⟨a, c, h1, h2, h3⟩
theorem OwII.matCongr {w : World} {E R B C : Nat} {a : Option Addr} {cap n m : Nat} {f g : Nat → Nat → Bool} (h : OwII w E R B C a cap (mat n m f)) (e : ∀ x y, x < n → y < m → f x y = g x y) : OwII w E R B C a cap (mat n m g) := mat_congr e ▸ h
/-- A cell of a row whose place is known. -/
theorem OwII.bitHead {w : World} {E R B C g r ci : Nat} {cap n m : Nat} {f : Nat → Nat → Bool} (h : OwII w E R B C (some ⟨g, 0, none⟩) cap (mat n m f)) (i j : Nat) (hi : i < n) (hj : j < m) (hc : w.cell? ⟨g, i, none⟩ = some (.slice (some ⟨r, 0, none⟩) m ci)) :
    w.cell? ⟨r, j, none⟩ = some (.int .i64 (if f i j then 1 else 0)) ∧ w.frozen? ⟨r, j, none⟩ = false ∧ B ≤ g ∧ g < C ∧ B ≤ r ∧ r < C ∧ g < w.heap.size ∧ r < w.heap.size ∧ g ≠ r ∧ (∀ v, (w.setCell ⟨r, j, none⟩ v).cell? ⟨g, i, none⟩ = some (.slice (some ⟨r, 0, none⟩) m ci)) ∧
      ∀ (b : Bool) (g' : Nat → Nat → Bool), (∀ x y, x < n → y < m → g' x y = if x = i ∧ y = j then b else f x y) → OwII (w.setCell ⟨r, j, none⟩ (.int .i64 (if b then 1 else 0))) E R B C (some ⟨g, 0, none⟩) cap (mat n m g') := by
  obtain ⟨g', r', ci', e, h2, h3, h4, h5, h6, h7, h8, h9, h10, h11, h12⟩ := h.bitAt i j hi hj
  cases e
  rw [h5] at hc
  cases hc
  refine ⟨h9, h10, h2, h3, h6, h7, h4, h8, h11, fun v => ?_, h12⟩
  rw [World.cell?_of_block (w := w) (Below.heap_setCell _ _ _ _ h11)]
  exact h5
/-- How far rows are filled. -/
def upB (k j : Nat) (h : Nat → Nat → Bool) (x y : Nat) : Bool := (decide (x < k) || (decide (x = k) && decide (y < j))) && h x y
theorem upB_step {k j : Nat} {h : Nat → Nat → Bool} (x y : Nat) : upB k (j + 1) h x y = if x = k ∧ y = j then h k j else upB k j h x y := by
  unfold upB
  by_cases e : x = k ∧ y = j
  · obtain ⟨rfl, rfl⟩ := e; simp
  · rw [if_neg e]
    congr 1
    rw [Bool.eq_iff_iff]; simp; omega
theorem upB_stay {k j : Nat} {h : Nat → Nat → Bool} (x y : Nat) (hn : h k j = false) : upB k j h x y = upB k (j + 1) h x y := by
  rw [upB_step]
  by_cases e : x = k ∧ y = j
  · obtain ⟨rfl, rfl⟩ := e; rw [if_pos ⟨rfl, rfl⟩, hn]; simp [upB]
  · rw [if_neg e]
theorem upB_row {k m : Nat} {h : Nat → Nat → Bool} (x y : Nat) (hy : y < m) : upB k m h x y = upB (k + 1) 0 h x y := by
  unfold upB
  congr 1
  rw [Bool.eq_iff_iff]; simp; omega
theorem upB_start {h : Nat → Nat → Bool} (x y : Nat) : upB 0 0 h x y = false := by unfold upB; simp
theorem upB_end {n : Nat} {h : Nat → Nat → Bool} (x y : Nat) (hx : x < n) : upB n 0 h x y = h x y := by unfold upB; simp [hx]
theorem OwI.lecap {w : World} {E B C : Nat} {a : Option Addr} {cap : Nat} {l : List Int} (h : OwI w E B C a cap l) : l.length ≤ cap := by
  rcases h with ⟨_, rfl, _⟩ | ⟨g, f, e, h1, h2, hr, hl, _⟩
  · simp
  · exact hl
theorem OwI.capmax {w : World} {E B C : Nat} {a : Option Addr} {cap : Nat} {l : List Int} (h : OwI w E B C a cap l) : cap ≤ maxLen := by
  rcases h with ⟨_, _, rfl⟩ | ⟨g, f, e, h1, h2, hr, hl, hm, _⟩
  · simp
  · exact hm
theorem lens_mat (n m : Nat) (f : Nat → Nat → Bool) : lens (mat n m f) = n * m := by
  have key : ∀ k, k ≤ n → lens ((mat n m f).take k) = k * m := by
    intro k
    induction k with
    | zero => intro _; simp [lens]
    | succ k ih =>
      intro hk
      have h1 := lens_succ (mat n m f) k (by rw [mat_len]; omega)
      rw [h1, ih (by omega), mat_get, rowOf_len, Nat.succ_mul]
  have := key n (Nat.le_refl _)
  rwa [mat_all] at this
theorem mat_small {n : Nat} (f : Nat → Nat → Bool) (hn : n ≤ 5) : (mat n n f).length ≤ 1048576 ∧ lens (mat n n f) ≤ 1048576 := by
  rw [mat_len, lens_mat]
  have := Nat.mul_le_mul hn hn
  omega
theorem OwI.app_in {w : World} {E B C D : Nat} {a : Option Addr} {cap : Nat} {l : List Int} (h : OwI w E B C a cap l) (hD : D ≤ B) : ∀ k, blockOf a = some k → D ≤ k := fun k hk => Nat.le_trans hD (h.block_in hk).1
theorem OwII.app_in {w : World} {E R B C D : Nat} {a : Option Addr} {cap : Nat} {p : List (List Int)} (h : OwII w E R B C a cap p) (hD : D ≤ B) : ∀ k, blockOf a = some k → D ≤ k := fun k hk => Nat.le_trans hD (h.block_in hk).1
theorem grown_undrew {w w' : World} {r : Option Nat} (h : w.drew.grownBy w' r) : w.grownBy w' r := ⟨h.os, h.tape, h.output, h.size, h.block⟩
/-- A world in which something may be appended to the call's own. -/
theorem below_app {B D : Nat} {W w w1 : World} {o : Obj} {r : Option Nat} (h : Below B W w) (hg : (w.alloc o).grownBy w1 r) (hr : ∀ k, r = some k → D ≤ k) (hD : B ≤ D) (hB : B ≤ W.heap.size) : Below B W w1 :=
  (h.alloc (Nat.le_trans hB h.size) o).grown hg (by have := h.size; simp; omega) (fun k hk => Nat.le_trans hD (hr k hk))
end Go.Hyp
