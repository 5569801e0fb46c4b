/- All orders that keep the first node first, as the reference lists them. No program in sight. -/
import Derived.Test.YtiiohodkfipfbaaGreatDoorLeastP
namespace Go.Hyp
/-- The rows that go on from o by a number from 1 to m - 1 that it lacks. -/
def ext (o : List Int) (m : Nat) : List (List Int) := ((List.range m).filter fun x : Nat => decide (1 ≤ x) && !decide ((x : Int) ∈ o)).map fun x : Nat => o ++ [(x : Int)]
theorem ext_succ (o : List Int) (m : Nat) : ext o (m + 1) = ext o m ++ (if (decide (1 ≤ m) && !decide ((m : Int) ∈ o)) = true then [o ++ [(m : Int)]] else []) := by
  unfold ext
  rw [List.range_succ, List.filter_append, List.map_append]
  cases h : (decide (1 ≤ m) && !decide ((m : Int) ∈ o)) <;> simp [h]
theorem ext_mem {o y : List Int} {m : Nat} : y ∈ ext o m ↔ ∃ x : Nat, y = o ++ [(x : Int)] ∧ x < m ∧ 1 ≤ x ∧ (x : Int) ∉ o := by
  unfold ext
  rw [List.mem_map]
  constructor
  · rintro ⟨x, hx, rfl⟩
    rw [List.mem_filter, List.mem_range, Bool.and_eq_true, decide_eq_true_eq, Bool.not_eq_true', decide_eq_false_iff_not] at hx
    exact ⟨x, rfl, hx.1, hx.2.1, hx.2.2⟩
  · rintro ⟨x, rfl, h1, h2, h3⟩
    refine ⟨x, ?_, rfl⟩
    rw [List.mem_filter, List.mem_range, Bool.and_eq_true, decide_eq_true_eq, Bool.not_eq_true', decide_eq_false_iff_not]
    exact ⟨h1, h2, h3⟩
theorem ext_len (o : List Int) (m : Nat) : (ext o m).length ≤ m := by
  unfold ext
  rw [List.length_map]
  have := List.length_filter_le (fun x : Nat => decide (1 ≤ x) && !decide ((x : Int) ∈ o)) (List.range m)
  rwa [List.length_range] at this
/-- What the first i rows go on to. -/
def nxt (n : Nat) (O : List (List Int)) (i : Nat) : List (List Int) := (O.take i).flatMap fun o => ext o n
theorem nxt_succ {n : Nat} {O : List (List Int)} {i : Nat} (h : i < O.length) : nxt n O (i + 1) = nxt n O i ++ ext O[i] n := by
  unfold nxt
  rw [List.take_succ_eq_append_getElem h, List.flatMap_append]
  simp
/-- The rows of k + 1 numbers. -/
def ords (n : Nat) : Nat → List (List Int)
  | 0 => [[0]]
  | k + 1 => nxt n (ords n k) (ords n k).length
/-- Such a row. -/
structure Pre (n k : Nat) (o : List Int) : Prop where
  len : o.length = k + 1
  zero : o.getD 0 0 = 0
  node : ∀ x ∈ o, ∃ v : Nat, x = v ∧ v < n
  nodup : o.Nodup
theorem ords_mem {n : Nat} (hn : 1 ≤ n) : ∀ (k : Nat) (o : List Int), o ∈ ords n k ↔ Pre n k o := by
  intro k
  induction k with
  | zero =>
    intro o
    constructor
    · intro h
      have : o = [0] := by simpa [ords] using h
      subst this
      exact ⟨rfl, rfl, fun x hx => ⟨0, by simpa using hx, by omega⟩, by simp⟩
    · intro h
      have hl := h.len
      have h0 := h.zero
      match o, hl with
      | [x], _ =>
        have : x = 0 := h0
        subst this
        simp [ords]
  | succ k ih =>
    intro o
    show o ∈ nxt n (ords n k) (ords n k).length ↔ _
    unfold nxt
    rw [List.take_of_length_le (Nat.le_refl _), List.mem_flatMap]
    constructor
    · rintro ⟨q, hq, ho⟩
      have hp := (ih q).1 hq
      obtain ⟨x, rfl, h1, h2, h3⟩ := ext_mem.1 ho
      have hql := hp.len
      refine ⟨by rw [List.length_append, hql]; rfl, ?_, fun y hy => ?_, ?_⟩
      · have h0 := hp.zero
        rw [getD_lt (by omega)] at h0
        rw [getD_lt (by rw [List.length_append]; omega), List.getElem_append_left (by omega)]
        exact h0
      · rcases List.mem_append.1 hy with hy | hy
        · exact hp.node y hy
        · simp at hy; exact ⟨x, hy, h1⟩
      · refine List.nodup_append.2 ⟨hp.nodup, by simp, fun a ha b hb => ?_⟩
        simp at hb; subst hb
        exact fun e => h3 (e ▸ ha)
    · intro h
      have hl := h.len
      have hne : o ≠ [] := fun e => by rw [e] at hl; simp at hl
      have hsplit := List.dropLast_concat_getLast hne
      obtain ⟨q, hq⟩ : ∃ q, q = o.dropLast := ⟨_, rfl⟩
      obtain ⟨y, hy⟩ : ∃ y, y = o.getLast hne := ⟨_, rfl⟩
      rw [← hq, ← hy] at hsplit
      subst hsplit
      have hql : q.length = k + 1 := by rw [List.length_append] at hl; simpa using hl
      obtain ⟨x, rfl, hx⟩ := h.node y (by simp)
      have hnd := List.nodup_append.1 h.nodup
      have h0 : q.getD 0 0 = 0 := by
        have h0 := h.zero
        rw [getD_lt (by rw [List.length_append]; omega), List.getElem_append_left (by omega)] at h0
        rw [getD_lt (by omega)]
        exact h0
      have hnotin : (x : Int) ∉ q := fun hm => hnd.2.2 _ hm _ (by simp) rfl
      have h0in : (0 : Int) ∈ q := by
        rw [getD_lt (show 0 < q.length by omega)] at h0
        rw [← h0]; exact List.getElem_mem _
      refine ⟨q, (ih q).2 ⟨hql, h0, fun z hz => h.node z (by simp [hz]), hnd.1⟩, ext_mem.2 ⟨x, rfl, hx, ?_, hnotin⟩⟩
      rcases Nat.eq_zero_or_pos x with e | e
      · subst e; exact absurd h0in hnotin
      · exact e
/-- All rows of n numbers are the orders that keep the first node first. -/
theorem ords_all {n : Nat} (hn : 1 ≤ n) (o : List Int) : o ∈ ords n (n - 1) ↔ Ord0 o n := by
  rw [ords_mem hn]
  constructor
  · intro h
    have hl := h.len
    have hl : o.length = n := by omega
    refine ⟨isOrd_iff.2 ⟨hl, fun i hi => ?_, h.nodup⟩, h.zero⟩
    obtain ⟨v, e, hv⟩ := h.node (o[i]'(by omega)) (List.getElem_mem _)
    exact ⟨v, by rw [getD_lt (by omega)]; exact e, hv⟩
  · rintro ⟨h, h0⟩
    obtain ⟨hl, hr, hnd⟩ := isOrd_iff.1 h
    refine ⟨by omega, h0, fun x hx => ?_, hnd⟩
    obtain ⟨i, hi, rfl⟩ := List.getElem_of_mem hx
    obtain ⟨v, e, hv⟩ := hr i (by omega)
    exact ⟨v, by rw [getD_lt hi] at e; exact e, hv⟩
theorem nxt_len (n : Nat) (O : List (List Int)) (i : Nat) : (nxt n O i).length ≤ i * n := by
  induction i with
  | zero => simp [nxt]
  | succ i ih =>
    rcases Nat.lt_or_ge i O.length with h | h
    · rw [nxt_succ h, List.length_append, Nat.succ_mul]
      have := ext_len O[i] n
      omega
    · have e : nxt n O (i + 1) = nxt n O i := by unfold nxt; rw [List.take_of_length_le (by omega), List.take_of_length_le h]
      rw [e, Nat.succ_mul]; omega
theorem ords_len (n : Nat) (hn : n ≤ 5) : ∀ k, (ords n k).length ≤ 5 ^ k := by
  intro k
  induction k with
  | zero => simp [ords]
  | succ k ih =>
    have h := nxt_len n (ords n k) (ords n k).length
    have h2 : (ords n k).length * n ≤ 5 ^ k * 5 := Nat.mul_le_mul ih hn
    show (nxt n (ords n k) (ords n k).length).length ≤ 5 ^ (k + 1)
    rw [Nat.pow_succ]; omega
end Go.Hyp
