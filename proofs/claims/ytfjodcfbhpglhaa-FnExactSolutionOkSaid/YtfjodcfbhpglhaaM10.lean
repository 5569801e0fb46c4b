/- Texts of pictures: which is first, and that a text tells its picture. No program in sight. -/
import GoSem.Op.String
import Derived.Test.YtfjodcfbhpglhaaM1
namespace Go.Hyp
/-! ### the order of bytes -/
theorem less_nil (l : List UInt8) : Op.bytesLess l [] = false := by cases l <;> rfl
theorem less_cons (a b : UInt8) (x y : List UInt8) : Op.bytesLess (a :: x) (b :: y) = (decide (a < b) || (a == b && Op.bytesLess x y)) := rfl
theorem less_tri : ∀ x y : List UInt8, Op.bytesLess x y = true ∨ x = y ∨ Op.bytesLess y x = true := by
  intro x
  induction x with
  | nil =>
    intro y
    cases y with
    | nil => exact .inr (.inl rfl)
    | cons b y => exact .inl rfl
  | cons a x ih =>
    intro y
    cases y with
    | nil => exact .inr (.inr rfl)
    | cons b y =>
      rw [less_cons, less_cons]
      rcases Nat.lt_trichotomy a.toNat b.toNat with h | h | h
      · left
        have : a < b := h
        simp [this]
      · have e : a = b := UInt8.toNat_inj.1 h
        subst e
        rcases ih y with h | h | h
        · left; simp [h]
        · right; left; rw [h]
        · right; right; simp [h]
      · right; right
        have : b < a := h
        simp [this]
theorem less_irrefl : ∀ x : List UInt8, Op.bytesLess x x = false := by
  intro x
  induction x with
  | nil => rfl
  | cons a x ih =>
    rw [less_cons, ih]
    have : ¬ a < a := fun h => Nat.lt_irrefl _ (show a.toNat < a.toNat from h)
    simp [this]
theorem less_trans : ∀ x y z : List UInt8, Op.bytesLess x y = true → Op.bytesLess y z = true → Op.bytesLess x z = true := by
  intro x
  induction x with
  | nil =>
    intro y z h1 h2
    cases z with
    | nil => rw [less_nil] at h2; cases h2
    | cons c z => rfl
  | cons a x ih =>
    intro y z h1 h2
    cases y with
    | nil => rw [less_nil] at h1; cases h1
    | cons b y =>
      cases z with
      | nil => rw [less_nil] at h2; cases h2
      | cons c z =>
        rw [less_cons, Bool.or_eq_true, Bool.and_eq_true, decide_eq_true_eq, beq_iff_eq] at h1 h2 ⊢
        rcases h1 with h1 | ⟨rfl, h1⟩
        · rcases h2 with h2 | ⟨rfl, h2⟩
          · left; exact Nat.lt_trans (show a.toNat < b.toNat from h1) (show b.toNat < c.toNat from h2)
          · exact .inl h1
        · rcases h2 with h2 | ⟨rfl, h2⟩
          · exact .inl h2
          · exact .inr ⟨rfl, ih y z h1 h2⟩
/-! ### texts -/
/-- Texts with a mark between them. -/
def joinT : List (List UInt8) → List UInt8
  | [] => []
  | [r] => r
  | r :: s :: rs => r ++ 47 :: joinT (s :: rs)
theorem joinT_snoc (r : List UInt8) : ∀ rs : List (List UInt8), joinT (rs ++ [r]) = if rs = [] then r else joinT rs ++ 47 :: r := by
  intro rs
  induction rs with
  | nil => rfl
  | cons a rs ih =>
    cases rs with
    | nil => rfl
    | cons b rs =>
      have e : a :: b :: rs ++ [r] = a :: ((b :: rs) ++ [r]) := rfl
      have e2 : joinT (a :: ((b :: rs) ++ [r])) = a ++ 47 :: joinT ((b :: rs) ++ [r]) := rfl
      rw [e, e2, ih, if_neg (by simp), if_neg (by simp)]
      show _ = (a ++ 47 :: joinT (b :: rs)) ++ 47 :: r
      simp
theorem cut_unique : ∀ (r s x y : List UInt8), 47 ∉ r → 47 ∉ s → r ++ 47 :: x = s ++ 47 :: y → r = s ∧ x = y := by
  intro r
  induction r with
  | nil =>
    intro s x y _ hs h
    cases s with
    | nil => simp at h; exact ⟨rfl, h⟩
    | cons b s => simp at h; exact absurd (by simp [h.1]) hs
  | cons a r ih =>
    intro s x y hr hs h
    cases s with
    | nil => simp at h; exact absurd (by simp [h.1]) hr
    | cons b s =>
      simp at h
      obtain ⟨e1, e2⟩ := ih s x y (fun h' => hr (by simp [h'])) (fun h' => hs (by simp [h'])) h.2
      exact ⟨by rw [h.1, e1], e2⟩
theorem joinT_inj : ∀ (rs ss : List (List UInt8)), rs.length = ss.length → (∀ r ∈ rs, 47 ∉ r) → (∀ s ∈ ss, 47 ∉ s) → joinT rs = joinT ss → rs = ss := by
  intro rs
  induction rs with
  | nil =>
    intro ss hl _ _ _
    exact (List.length_eq_zero_iff.1 hl.symm).symm
  | cons r rs ih =>
    intro ss hl h1 h2 h
    cases ss with
    | nil => simp at hl
    | cons s ss =>
      cases rs with
      | nil =>
        cases ss with
        | nil => have : r = s := h; rw [this]
        | cons _ _ => simp at hl
      | cons r2 rs =>
        cases ss with
        | nil => simp at hl
        | cons s2 ss =>
          have h' : r ++ 47 :: joinT (r2 :: rs) = s ++ 47 :: joinT (s2 :: ss) := h
          obtain ⟨e1, e2⟩ := cut_unique r s _ _ (h1 r (by simp)) (h2 s (by simp)) h'
          rw [e1, ih (s2 :: ss) (by simpa using hl) (fun x hx => h1 x (by simp [List.mem_cons.1 hx])) (fun x hx => h2 x (by simp [List.mem_cons.1 hx])) e2]
/-- The text of a row: the digits of the places that are set. -/
def rowT (p : List (List Int)) (k m : Nat) : List UInt8 := ((List.range m).filter (arr p k)).map fun j => UInt8.ofNat (48 + j)
theorem rowT_succ (p : List (List Int)) (k m : Nat) : rowT p k (m + 1) = rowT p k m ++ (if arr p k m then [UInt8.ofNat (48 + m)] else []) := by
  unfold rowT
  rw [List.range_succ, List.filter_append, List.map_append]
  cases h : arr p k m <;> simp [h]
theorem rowT_len (p : List (List Int)) (k m : Nat) : (rowT p k m).length ≤ m := by
  unfold rowT
  rw [List.length_map]
  have := List.length_filter_le (arr p k) (List.range m)
  rwa [List.length_range] at this
theorem digit_val {j : Nat} (h : j < 10) : (UInt8.ofNat (48 + j)).toNat = 48 + j := by
  rw [UInt8.toNat_ofNat']
  exact Nat.mod_eq_of_lt (by omega)
theorem rowT_slash {p : List (List Int)} {k m : Nat} (hm : m ≤ 10) : (47 : UInt8) ∉ rowT p k m := by
  unfold rowT
  intro h
  obtain ⟨j, hj, e⟩ := List.mem_map.1 h
  have hj2 := List.mem_range.1 (List.mem_filter.1 hj).1
  have := congrArg UInt8.toNat e
  rw [digit_val (by omega)] at this
  have h47 : (47 : UInt8).toNat = 47 := rfl
  omega
theorem rowT_inj {p q : List (List Int)} {k m : Nat} (hm : m ≤ 10) (h : rowT p k m = rowT q k m) : ∀ j, j < m → arr p k j = arr q k j := by
  have key : ∀ (p q : List (List Int)), rowT p k m = rowT q k m → ∀ j, j < m → arr p k j = true → arr q k j = true := by
    intro p q h j hj ha
    have : UInt8.ofNat (48 + j) ∈ rowT p k m := List.mem_map.2 ⟨j, List.mem_filter.2 ⟨List.mem_range.2 hj, ha⟩, rfl⟩
    rw [h] at this
    obtain ⟨j', hj', e⟩ := List.mem_map.1 this
    obtain ⟨h1, h2⟩ := List.mem_filter.1 hj'
    have h1 := List.mem_range.1 h1
    have := congrArg UInt8.toNat e
    rw [digit_val (by omega), digit_val (by omega)] at this
    have : j' = j := by omega
    rw [← this]; exact h2
  intro j hj
  rw [Bool.eq_iff_iff]
  exact ⟨key p q h j hj, key q p h.symm j hj⟩
/-- The text of the first k rows. -/
def textK (p : List (List Int)) (n k : Nat) : List UInt8 := joinT ((List.range k).map fun i => rowT p i n)
theorem textK_succ (p : List (List Int)) (n k : Nat) : textK p n (k + 1) = if k = 0 then rowT p 0 n else textK p n k ++ 47 :: rowT p k n := by
  unfold textK
  rw [List.range_succ, List.map_append]
  show joinT (_ ++ [rowT p k n]) = _
  rw [joinT_snoc]
  by_cases h : k = 0
  · subst h; rfl
  · rw [if_neg (by intro e; have := congrArg List.length e; simp at this; exact h this), if_neg h]
/-- The text of a picture. -/
def textP (p : List (List Int)) : List UInt8 := textK p p.length p.length
theorem textK_len (p : List (List Int)) (n k : Nat) : (textK p n k).length ≤ k * (n + 1) := by
  induction k with
  | zero => simp [textK, joinT]
  | succ k ih =>
    rw [textK_succ, Nat.succ_mul]
    split
    · have := rowT_len p 0 n; omega
    · rw [List.length_append, List.length_cons]
      have := rowT_len p k n; omega
theorem textP_inj {p q : List (List Int)} (hp : Sq p) (hq : Sq q) (hl : p.length = q.length) (h5 : p.length ≤ 10) (h : textP p = textP q) : p = q := by
  unfold textP textK at h
  have h2 := joinT_inj _ _ (by simp [hl]) (fun r hr => by
    obtain ⟨i, _, rfl⟩ := List.mem_map.1 hr
    exact rowT_slash h5) (fun r hr => by
    obtain ⟨i, _, rfl⟩ := List.mem_map.1 hr
    exact rowT_slash (by omega)) h
  refine hp.ext hq hl fun i j hi hj => ?_
  have h3 : rowT p i p.length = rowT q i q.length := by
    have := congrArg (fun l => l[i]?) h2
    simpa [hi, show i < q.length by omega] using this
  rw [← hl] at h3
  exact rowT_inj h5 h3 j hj
end Go.Hyp
