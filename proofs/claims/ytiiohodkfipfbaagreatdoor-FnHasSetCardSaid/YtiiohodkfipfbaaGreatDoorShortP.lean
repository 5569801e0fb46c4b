/- The plain law of short streams: the shortest way to tell a stream of bits is one alone. No program in sight. -/
import Derived.Test.YtiiohodkfipfbaaGreatDoorLib
namespace Go.Hyp

/-- From place n on, p places further it is the same. -/
def Per (f : Nat → Int) (n p : Nat) : Prop := ∀ k, n ≤ k → f (k + p) = f k
theorem Per.sub {f : Nat → Int} {n p q : Nat} (h : Per f n p) (k : Per f n q) (hq : q ≤ p) : Per f n (p - q) := fun i hi => by
  have h1 := k (i + (p - q)) (by omega)
  have h2 := h i hi
  rw [show i + (p - q) + q = i + p by omega] at h1
  rw [← h1, h2]
theorem Per.iter {f : Nat → Int} {n p : Nat} (h : Per f n p) (j : Nat) : Per f n (j * p) := by
  induction j with
  | zero => intro i hi; simp
  | succ j ih => intro i hi; rw [Nat.succ_mul, ← Nat.add_assoc, h _ (by omega), ih i hi]
theorem Per.mono {f : Nat → Int} {n n' p : Nat} (h : Per f n p) (hn : n ≤ n') : Per f n' p := fun i hi => h i (by omega)
theorem Per.lower {f : Nat → Int} {n m p q : Nat} (h : Per f n p) (k : Per f m q) (hq : 0 < q) : Per f m p := fun i hi => by
  have hb : n ≤ n * q := Nat.le_mul_of_pos_right n hq
  have h1 := (k.iter n) (i + p) (by omega)
  have h2 := (k.iter n) i hi
  have h3 := h (i + n * q) (by omega)
  rw [← h1, ← h2, ← h3]; congr 1; omega
theorem Per.mod {f : Nat → Int} {n p q : Nat} (h : Per f n p) (k : Per f n q) : Per f n (p % q) := by
  have h1 := h.sub (k.iter (p / q)) (Nat.div_mul_le_self p q)
  have e : p - p / q * q = p % q := by have := Nat.mod_add_div p q; rw [Nat.mul_comm] at this; omega
  rwa [e] at h1

theorem bitOf_per (l1 l2 : List Int) : Per (bitOf l1 l2) l1.length l2.length := fun k hk => by
  unfold bitOf
  rw [if_neg (by omega), if_neg (by omega), show k + l2.length - l1.length = (k - l1.length) + l2.length by omega, Nat.add_mod_right]

/-- m1, m2 tell the bits f, and nothing shorter does. -/
def ShortFor (f : Nat → Int) (m1 m2 : List Int) : Prop :=
  bitOf m1 m2 = f ∧ 0 < m2.length ∧ (∀ n p, 0 < p → Per f n p → m2.length ≤ p) ∧ ∀ n p, 0 < p → Per f n p → m1.length ≤ n
theorem bitOf_ahead {l1 l2 : List Int} (i : Nat) (h : i < l1.length) : bitOf l1 l2 i = l1[i] := by
  unfold bitOf; rw [if_pos h]; simp [List.getD, h]
theorem bitOf_again {l1 l2 : List Int} (i : Nat) (h : i < l2.length) : bitOf l1 l2 (l1.length + i) = l2[i] := by
  unfold bitOf; rw [if_neg (by omega), show l1.length + i - l1.length = i by omega, Nat.mod_eq_of_lt h]; simp [List.getD, h]
theorem ShortFor.one {f : Nat → Int} {m1 m2 n1 n2 : List Int} (h : ShortFor f m1 m2) (k : ShortFor f n1 n2) : m1 = n1 ∧ m2 = n2 := by
  obtain ⟨h1, h2, h3, h4⟩ := h
  obtain ⟨k1, k2, k3, k4⟩ := k
  have pm : Per f m1.length m2.length := h1 ▸ bitOf_per m1 m2
  have pn : Per f n1.length n2.length := k1 ▸ bitOf_per n1 n2
  have e1 : m1.length = n1.length := Nat.le_antisymm (h4 _ _ k2 pn) (k4 _ _ h2 pm)
  have e2 : m2.length = n2.length := Nat.le_antisymm (h3 _ _ k2 pn) (k3 _ _ h2 pm)
  constructor
  · apply List.ext_getElem e1
    intro i a b
    rw [← bitOf_ahead (l2 := m2) i a, ← bitOf_ahead (l2 := n2) i b, h1, k1]
  · apply List.ext_getElem e2
    intro i a b
    rw [← bitOf_again (l1 := m1) i a, ← bitOf_again (l1 := n1) i b, h1, k1, e1]

/-! ### The program's way -/

theorem shift_mod {l : List Int} {n : Nat} (_hn : 0 < n) (h : l.drop n = l.take (l.length - n)) : ∀ j, j < l.length → l.getD j 0 = l.getD (j % n) 0 := by
  intro j
  induction j using Nat.strongRecOn with
  | ind j ih =>
    intro hj
    by_cases hjn : j < n
    · rw [Nat.mod_eq_of_lt hjn]
    · have e := congrArg (fun x => x.getD (j - n) 0) h
      have h1 : j - n < l.length - n := by omega
      simp only [List.getD, List.getElem?_drop, List.getElem?_take, if_pos h1, show n + (j - n) = j by omega] at e
      have h2 := ih (j - n) (by omega) (by omega)
      rw [show j % n = (j - n) % n from Nat.mod_eq_sub_mod (by omega), ← h2]
      exact e
theorem cut_same {l1 l : List Int} {n : Nat} (hn : 0 < n) (hnl : n ≤ l.length) (hd : l.length % n = 0) (h : l.drop n = l.take (l.length - n)) : bitOf l1 (l.take n) = bitOf l1 l := by
  funext k
  unfold bitOf
  by_cases hk : k < l1.length
  · rw [if_pos hk, if_pos hk]
  · rw [if_neg hk, if_neg hk]
    have hl : (l.take n).length = n := by simp; omega
    have h0 : 0 < l.length := by omega
    have m1 := Nat.mod_lt (k - l1.length) hn
    rw [hl, shift_mod hn h _ (Nat.mod_lt _ h0), Nat.mod_mod_of_dvd _ (Nat.dvd_of_mod_eq_zero hd)]
    simp [List.getD, m1]
/-- What holds of the first loop ahead of round n: l is what comes again so far. -/
def RoundA (l1 l2 l : List Int) (n : Nat) : Prop :=
  bitOf l1 l = bitOf l1 l2 ∧ 0 < l.length ∧ l.length ≤ l2.length ∧ 0 < n ∧ (∀ x ∈ l, x ∈ l2) ∧ ∀ p, 0 < p → p < n → Per (bitOf l1 l2) l1.length p → l.length ≤ p
theorem RoundA.start {l1 l2 : List Int} (h : 0 < l2.length) : RoundA l1 l2 l2 1 := ⟨rfl, h, Nat.le_refl _, Nat.one_pos, fun _ hx => hx, fun p h0 h1 _ => by omega⟩
theorem RoundA.cut {l1 l2 l : List Int} {n : Nat} (h : RoundA l1 l2 l n) (hn : n < l.length) (hd : l.length % n = 0) (hs : l.drop n = l.take (l.length - n)) : RoundA l1 l2 (l.take n) (n + 1) := by
  obtain ⟨h1, h2, h3, h4, h6, h5⟩ := h
  have hl : (l.take n).length = n := by simp; omega
  refine ⟨(cut_same h4 (by omega) hd hs).trans h1, by omega, by omega, by omega, fun x hx => h6 x (List.mem_of_mem_take hx), fun p p0 pn hp => ?_⟩
  rw [hl]
  by_cases e : p < n
  · have := h5 p p0 e hp; omega
  · omega
theorem RoundA.stay {l1 l2 l : List Int} {n : Nat} (h : RoundA l1 l2 l n) (hn : n < l.length) (hs : ¬ (l.length % n = 0 ∧ l.drop n = l.take (l.length - n))) : RoundA l1 l2 l (n + 1) := by
  obtain ⟨h1, h2, h3, h4, h6, h5⟩ := h
  refine ⟨h1, h2, h3, by omega, h6, fun p p0 pn hp => ?_⟩
  by_cases e : p < n
  · exact h5 p p0 e hp
  · obtain rfl : p = n := by omega
    exfalso
    have hper : Per (bitOf l1 l2) l1.length l.length := h1 ▸ bitOf_per l1 l
    by_cases hd : l.length % p = 0
    · apply hs
      refine ⟨hd, ?_⟩
      apply List.ext_getElem (by simp)
      intro i a b
      simp at a
      have e1 := bitOf_again (l1 := l1) (l2 := l) (i + p) (by omega)
      have e2 := bitOf_again (l1 := l1) (l2 := l) i (by omega)
      have e3 := hp (l1.length + i) (by omega)
      rw [← h1, Nat.add_assoc, e1, e2] at e3
      simp only [List.getElem_drop, List.getElem_take]
      rw [← e3]; congr 1; omega
    · have hm := hper.mod hp
      have hlt := Nat.mod_lt l.length p0
      have := h5 _ (by omega) hlt hm
      omega
/-- What holds of the second loop ahead of each round. -/
def RoundB (f : Nat → Int) (m1 m2 : List Int) : Prop := bitOf m1 m2 = f ∧ 0 < m2.length ∧ ∀ n p, 0 < p → Per f n p → m2.length ≤ p
theorem RoundA.done {l1 l2 l : List Int} {n : Nat} (h : RoundA l1 l2 l n) (hn : l.length ≤ n) : RoundB (bitOf l1 l2) l1 l := by
  obtain ⟨h1, h2, h3, h4, h6, h5⟩ := h
  refine ⟨h1, h2, fun m p p0 hp => ?_⟩
  have hper : Per (bitOf l1 l2) l1.length l.length := h1 ▸ bitOf_per l1 l
  by_cases e : p < n
  · exact h5 p p0 e (hp.lower hper h2)
  · omega
theorem RoundB.last {f : Nat → Int} {m1 m2 : List Int} (h : RoundB f m1 m2) (h0 : 0 < m1.length) : f (m1.length - 1) = m1.getD (m1.length - 1) 0 ∧ f (m1.length - 1 + m2.length) = m2.getD (m2.length - 1) 0 := by
  obtain ⟨h1, h2, h3⟩ := h
  subst h1
  constructor
  · unfold bitOf; rw [if_pos (by omega)]
  · unfold bitOf; rw [if_neg (by omega), show m1.length - 1 + m2.length - m1.length = m2.length - 1 by omega, Nat.mod_eq_of_lt (by omega)]
theorem RoundB.cut {f : Nat → Int} {m1 m2 : List Int} {v : Int} (h : RoundB f m1 m2) (h0 : 0 < m1.length) (hv : m1.getD (m1.length - 1) 0 = m2.getD (m2.length - 1) 0) (hv' : v = m2.getD (m2.length - 1) 0) :
    RoundB f (m1.take (m1.length - 1)) ([v] ++ m2.take (m2.length - 1)) := by
  obtain ⟨h1, h2, h3⟩ := h
  have l1 : (m1.take (m1.length - 1)).length = m1.length - 1 := by simp
  have l2 : ([v] ++ m2.take (m2.length - 1)).length = m2.length := by simp; omega
  refine ⟨?_, by omega, by rwa [l2]⟩
  subst h1
  funext k
  unfold bitOf
  rw [l1, l2]
  by_cases hk : k < m1.length - 1
  · rw [if_pos hk, if_pos (by omega)]
    simp only [List.getD, List.getElem?_take, if_pos hk]
  · rw [if_neg hk]
    have key : ∀ i, i < m2.length → ([v] ++ m2.take (m2.length - 1)).getD i 0 = if i = 0 then v else m2.getD (i - 1) 0 := by
      intro i hi
      cases i with
      | zero => simp
      | succ i =>
        rw [if_neg (by omega)]
        have hi' : i < m2.length - 1 := by omega
        simp only [List.singleton_append, List.getD, List.getElem?_cons_succ, List.getElem?_take, if_pos hi', Nat.add_sub_cancel]
    rw [key _ (Nat.mod_lt _ h2)]
    by_cases hk1 : k < m1.length
    · obtain rfl : k = m1.length - 1 := by omega
      rw [if_pos hk1, Nat.sub_self, Nat.zero_mod, if_pos rfl, hv', hv]
    · rw [if_neg hk1]
      obtain ⟨j, rfl⟩ : ∃ j, k = m1.length + j := ⟨k - m1.length, by omega⟩
      rw [show m1.length + j - (m1.length - 1) = j + 1 by omega, show m1.length + j - m1.length = j by omega]
      have hj := Nat.mod_lt j h2
      by_cases e : j % m2.length = m2.length - 1
      · have e0 : (j + 1) % m2.length = 0 := by
          rw [Nat.add_mod, e]
          by_cases h1 : m2.length = 1
          · rw [h1]
          · rw [Nat.mod_eq_of_lt (show 1 < m2.length by omega), show m2.length - 1 + 1 = m2.length by omega, Nat.mod_self]
        rw [e0, if_pos rfl, e, hv']
      · have e0 : (j + 1) % m2.length = j % m2.length + 1 := by
          rw [Nat.add_mod, Nat.mod_eq_of_lt (show 1 < m2.length by omega), Nat.mod_eq_of_lt (by omega)]
        rw [e0, if_neg (by omega), Nat.add_sub_cancel]
theorem RoundB.done {f : Nat → Int} {m1 m2 : List Int} (h : RoundB f m1 m2) (hd : ¬ (0 < m1.length ∧ m1.getD (m1.length - 1) 0 = m2.getD (m2.length - 1) 0)) : ShortFor f m1 m2 := by
  obtain ⟨h1, h2, h3⟩ := id h
  refine ⟨h1, h2, h3, fun n p p0 hp => ?_⟩
  rcases Nat.lt_or_ge n m1.length with hn | hn
  · exfalso
    apply hd
    refine ⟨by omega, ?_⟩
    obtain ⟨e1, e2⟩ := h.last (by omega)
    have hper : Per f m1.length m2.length := h1 ▸ bitOf_per m1 m2
    have hq := (hper.lower hp p0) (m1.length - 1) (by omega)
    rw [e1, e2] at hq
    exact hq.symm
  · exact hn

/-! ### The reference's way -/

/-- n bits of f from a on. -/
def bitsOf (f : Nat → Int) (a n : Nat) : List Int := (List.range n).map fun i => f (a + i)
theorem bitsOf_len (f : Nat → Int) (a n : Nat) : (bitsOf f a n).length = n := by simp [bitsOf]
theorem bitsOf_succ (f : Nat → Int) (a n : Nat) : bitsOf f a (n + 1) = bitsOf f a n ++ [f (a + n)] := by simp [bitsOf, List.range_succ]
theorem told_same {f : Nat → Int} {a g : Nat} (hg : 0 < g) : bitOf (bitsOf f 0 a) (bitsOf f a g) = f ↔ Per f a g := by
  constructor
  · intro h
    have := bitOf_per (bitsOf f 0 a) (bitsOf f a g)
    rwa [h, bitsOf_len, bitsOf_len] at this
  · intro h
    funext k
    unfold bitOf
    rw [bitsOf_len, bitsOf_len]
    by_cases hk : k < a
    · rw [if_pos hk]; simp [bitsOf, List.getD, hk]
    · rw [if_neg hk]
      have hm := Nat.mod_lt (k - a) hg
      have e := (h.iter ((k - a) / g)) (a + (k - a) % g) (by omega)
      have e2 : a + (k - a) % g + (k - a) / g * g = k := by have := Nat.mod_add_div (k - a) g; rw [Nat.mul_comm] at this; omega
      rw [e2] at e
      simp [bitsOf, List.getD, hm]
      exact e.symm
/-- The first pair of numbers that will do tells the short stream. -/
theorem told_short {l2 : List Int} {f : Nat → Int} {a g : Nat} (hg : 0 < g) (hgl : g ≤ l2.length) (hp : Per f a g) (hlow : ∀ a' g', a' < a → 0 < g' → g' ≤ l2.length → ¬ Per f a' g') (hlow' : ∀ g', 0 < g' → g' < g → ¬ Per f a g') :
    ShortFor f (bitsOf f 0 a) (bitsOf f a g) := by
  refine ⟨(told_same hg).2 hp, by rw [bitsOf_len]; exact hg, fun n p p0 h => ?_, fun n p p0 h => ?_⟩
  · rw [bitsOf_len]
    rcases Nat.lt_or_ge p g with e | e
    · exact absurd (h.lower hp hg) (hlow' p p0 e)
    · exact e
  · rw [bitsOf_len]
    rcases Nat.lt_or_ge n a with e | e
    · exact absurd (hp.lower h p0) (hlow n g e hg hgl)
    · exact e

/-- Two streams are the same if their first 156 bits are. -/
theorem same_156 {l1 l2 m1 m2 : List Int} (h : streamB l1 l2 = true) (k : streamB m1 m2 = true) (he : ∀ i, i < 156 → bitOf l1 l2 i = bitOf m1 m2 i) : bitOf l1 l2 = bitOf m1 m2 := by
  unfold streamB at h k
  simp only [Bool.and_eq_true, decide_eq_true_eq] at h k
  have p1 := ((bitOf_per l1 l2).mono (show l1.length ≤ 12 by omega)).iter m2.length
  have p2 := ((bitOf_per m1 m2).mono (show m1.length ≤ 12 by omega)).iter l2.length
  rw [Nat.mul_comm] at p2
  have hL : m2.length * l2.length ≤ 144 := Nat.mul_le_mul (show m2.length ≤ 12 by omega) (show l2.length ≤ 12 by omega)
  have h0 : 0 < m2.length * l2.length := Nat.mul_pos (by omega) (by omega)
  funext i
  induction i using Nat.strongRecOn with
  | ind i ih =>
    by_cases hi : i < 156
    · exact he i hi
    · have e1 := p1 (i - m2.length * l2.length) (by omega)
      have e2 := p2 (i - m2.length * l2.length) (by omega)
      rw [show i - m2.length * l2.length + m2.length * l2.length = i by omega] at e1 e2
      rw [e1, e2]
      exact ih _ (by omega)
end Go.Hyp
