/- The plain law of the game: best answers and best moves. No program in sight. -/
import Derived.Test.YtodjkphelildeaaHeld
import Derived.Test.YtodjkphelildeaaArrow
namespace Go.Hyp

theorem rev_ind {α : Type} {P : List α → Prop} (nil : P []) (snoc : ∀ (L : List α) (v : α), P L → P (L ++ [v])) : ∀ L, P L := by
  have key : ∀ M : List α, P M.reverse := by
    intro M
    induction M with
    | nil => exact nil
    | cons v M ih => rw [List.reverse_cons]; exact snoc _ _ ih
  intro L
  have := key L.reverse
  rwa [List.reverse_reverse] at this
/-- The first of a list with the greatest value above -1, and that value. -/
def fmax (f : Nat → Int) (L : List Int) : Int × Int := L.foldl (fun s v => if s.2 < f v.toNat then (v, f v.toNat) else s) (-1, -1)
theorem fmax_snoc (f : Nat → Int) (L : List Int) (v : Int) : fmax f (L ++ [v]) = if (fmax f L).2 < f v.toNat then (v, f v.toNat) else fmax f L := by
  unfold fmax; rw [List.foldl_append]; rfl
/-- How long two nodes hold, 5 for ever. -/
def held5 (p : List (List Int)) (a b : Nat) : Int := if simB p a b = true then 5 else (heldN p a b : Int)
def heldZ (p : List (List Int)) (a b : Nat) : Int := (heldN p a b : Int)
/-- 1000 told as 5. -/
def phi (x : Int) : Int := if x = 1000 then 5 else x
theorem phi_heldZ {p : List (List Int)} {a b : Nat} (h5 : p.length ≤ 5) (ha : a < p.length) (hb : b < p.length) : phi (heldZ p a b) = held5 p a b ∧ ((0 ≤ heldZ p a b ∧ heldZ p a b < 5) ∨ heldZ p a b = 1000) := by
  unfold phi heldZ held5
  cases h : simB p a b
  · have := (heldN_apart h).1
    constructor
    · rw [if_neg (by omega)]; simp
    · left; omega
  · have := (heldN_sim ha hb h).1
    rw [this]; simp
theorem fmax_phi {p : List (List Int)} {m : Nat} (h5 : p.length ≤ 5) (hm : m < p.length) (L : List Int) (hL : ∀ x ∈ L, ∃ k : Nat, x = k ∧ k < p.length) :
    (fmax (held5 p m) L).1 = (fmax (heldZ p m) L).1 ∧ (fmax (held5 p m) L).2 = phi (fmax (heldZ p m) L).2 ∧ ((-1 ≤ (fmax (heldZ p m) L).2 ∧ (fmax (heldZ p m) L).2 < 5) ∨ (fmax (heldZ p m) L).2 = 1000) := by
  induction L using rev_ind with
  | nil => exact ⟨rfl, rfl, .inl ⟨by show (-1 : Int) ≤ -1; omega, by show (-1 : Int) < 5; omega⟩⟩
  | snoc L v ih =>
    obtain ⟨i1, i2, i3⟩ := ih (fun x hx => hL x (by simp [hx]))
    obtain ⟨k, rfl, hk⟩ := hL v (by simp)
    obtain ⟨q1, q2⟩ := phi_heldZ h5 hm hk
    rw [fmax_snoc, fmax_snoc, Int.toNat_natCast]
    have e : ((fmax (held5 p m) L).2 < held5 p m k) ↔ ((fmax (heldZ p m) L).2 < heldZ p m k) := by
      rw [i2, ← q1]
      unfold phi
      split <;> split <;> omega
    by_cases h : (fmax (heldZ p m) L).2 < heldZ p m k
    · rw [if_pos h, if_pos (e.2 h)]
      exact ⟨rfl, q1.symm, by omega⟩
    · rw [if_neg h, if_neg (fun h' => h (e.1 h'))]
      exact ⟨i1, i2, i3⟩
/-- The best answer to a member (-1 for none), and how long it holds. -/
def bestA (p : List (List Int)) (m o : Nat) : Int := (fmax (heldZ p m) (arrL p o p.length)).1
def longA (p : List (List Int)) (m o : Nat) : Int := (fmax (heldZ p m) (arrL p o p.length)).2
theorem fmax_spec (f : Nat → Int) (hf : ∀ k, -1 < f k) (L : List Int) :
    (L = [] → fmax f L = (-1, -1)) ∧ (L ≠ [] → (fmax f L).1 ∈ L ∧ (fmax f L).2 = f (fmax f L).1.toNat) ∧ ∀ v ∈ L, f v.toNat ≤ (fmax f L).2 := by
  induction L using rev_ind with
  | nil => exact ⟨fun _ => rfl, fun h => absurd rfl h, fun v hv => by simp at hv⟩
  | snoc L v ih =>
    obtain ⟨i1, i2, i3⟩ := ih
    rw [fmax_snoc]
    refine ⟨fun h => by simp at h, fun _ => ?_, fun x hx => ?_⟩
    · by_cases h : (fmax f L).2 < f v.toNat
      · rw [if_pos h]; exact ⟨by simp, rfl⟩
      · rw [if_neg h]
        have hne : L ≠ [] := fun e => by
          rw [i1 e] at h
          exact h (hf _)
        exact ⟨by simp [(i2 hne).1], (i2 hne).2⟩
    · rcases List.mem_append.1 hx with hx | hx
      · have := i3 x hx
        by_cases h : (fmax f L).2 < f v.toNat
        · rw [if_pos h]; show f x.toNat ≤ f v.toNat; omega
        · rw [if_neg h]; exact this
      · simp at hx; subst hx
        by_cases h : (fmax f L).2 < f x.toNat
        · rw [if_pos h]; exact Int.le_refl _
        · rw [if_neg h]; omega
theorem heldZ_nonneg (p : List (List Int)) (a b : Nat) : -1 < heldZ p a b := by unfold heldZ; omega
theorem bestA_none {p : List (List Int)} {m o : Nat} (h : arrL p o p.length = []) : bestA p m o = -1 ∧ longA p m o = -1 := by
  unfold bestA longA
  rw [h]; exact ⟨rfl, rfl⟩
theorem bestA_some {p : List (List Int)} {m o : Nat} (h : arrL p o p.length ≠ []) : ∃ v : Nat, bestA p m o = v ∧ v < p.length ∧ arr p o v = true ∧ longA p m o = heldN p m v ∧ ∀ u, u < p.length → arr p o u = true → (heldN p m u : Int) ≤ heldN p m v := by
  obtain ⟨_, h2, h3⟩ := fmax_spec (heldZ p m) (heldZ_nonneg p m) (arrL p o p.length)
  obtain ⟨k1, k2⟩ := h2 h
  obtain ⟨v, e1, e2, e3⟩ := arrL_mem.1 k1
  refine ⟨v, e1, e2, e3, ?_, fun u hu ha => ?_⟩
  · have := k2; rw [e1] at this; exact this
  · have := h3 u (arrL_mem.2 ⟨u, rfl, hu, ha⟩)
    rw [k2, e1] at this
    exact this

/-! ### moves -/

/-- The first of a list of moves with the least value below a bound. -/
def fmin (g : Int × Int → Int) (b : Int) (L : List (Int × Int)) : (Int × Int) × Int := L.foldl (fun s v => if g v < s.2 then (v, g v) else s) ((-1, -1), b)
theorem fmin_snoc (g : Int × Int → Int) (b : Int) (L : List (Int × Int)) (v : Int × Int) : fmin g b (L ++ [v]) = if g v < (fmin g b L).2 then (v, g v) else fmin g b L := by
  unfold fmin; rw [List.foldl_append]; rfl
/-- All moves for two nodes: a side and a member. -/
def moves (p : List (List Int)) (a b : Nat) : List (Int × Int) := (arrL p a p.length).map (fun m => (0, m)) ++ (arrL p b p.length).map (fun m => (1, m))
/-- How long the best answer to a move holds. -/
def moveZ (p : List (List Int)) (a b : Nat) (x : Int × Int) : Int := longA p x.2.toNat (if x.1 = 0 then b else a)
def move5 (p : List (List Int)) (a b : Nat) (x : Int × Int) : Int := phi (moveZ p a b x)
/-- The best move: its side and its member. -/
def bestM (p : List (List Int)) (a b : Nat) : Int × Int := (fmin (moveZ p a b) 1000 (moves p a b)).1
theorem longA_range {p : List (List Int)} {m o : Nat} (h5 : p.length ≤ 5) (hm : m < p.length) : (-1 ≤ longA p m o ∧ longA p m o < 5) ∨ longA p m o = 1000 :=
  (fmax_phi h5 hm (arrL p o p.length) (fun x hx => by obtain ⟨k, e, h, _⟩ := arrL_mem.1 hx; exact ⟨k, e, h⟩)).2.2
theorem fmin_phi {p : List (List Int)} {a b : Nat} (h5 : p.length ≤ 5) (L : List (Int × Int)) (hL : ∀ x ∈ L, ∃ k : Nat, x.2 = k ∧ k < p.length) :
    ((fmin (moveZ p a b) 1000 L).2 < 5 ∧ fmin (move5 p a b) 6 L = fmin (moveZ p a b) 1000 L) ∨ ((fmin (moveZ p a b) 1000 L).2 = 1000 ∧ 5 ≤ (fmin (move5 p a b) 6 L).2) := by
  induction L using rev_ind with
  | nil => exact .inr ⟨rfl, by show (5 : Int) ≤ 6; omega⟩
  | snoc L v ih =>
    have ih := ih (fun x hx => hL x (by simp [hx]))
    obtain ⟨k, e, hk⟩ := hL v (by simp)
    have hr : (-1 ≤ moveZ p a b v ∧ moveZ p a b v < 5) ∨ moveZ p a b v = 1000 := by
      unfold moveZ; rw [e, Int.toNat_natCast]; exact longA_range h5 hk
    rw [fmin_snoc, fmin_snoc]
    have hm5 : move5 p a b v = phi (moveZ p a b v) := rfl
    rw [hm5]
    rcases ih with ⟨i1, i2⟩ | ⟨i1, i2⟩
    · rw [i2]
      rcases hr with hr | hr
      · have : phi (moveZ p a b v) = moveZ p a b v := by unfold phi; rw [if_neg (by omega)]
        rw [this]
        by_cases h : moveZ p a b v < (fmin (moveZ p a b) 1000 L).2
        · rw [if_pos h]; exact .inl ⟨hr.2, rfl⟩
        · rw [if_neg h]; exact .inl ⟨i1, rfl⟩
      · have : phi (moveZ p a b v) = 5 := by unfold phi; rw [if_pos hr]
        rw [this, if_neg (by omega), if_neg (by omega)]
        exact .inl ⟨i1, rfl⟩
    · rcases hr with hr | hr
      · have : phi (moveZ p a b v) = moveZ p a b v := by unfold phi; rw [if_neg (by omega)]
        rw [this, if_pos (by omega), if_pos (by omega)]
        exact .inl ⟨hr.2, rfl⟩
      · have : phi (moveZ p a b v) = 5 := by unfold phi; rw [if_pos hr]
        rw [this, hr, i1, if_neg (by omega)]
        right
        refine ⟨i1, ?_⟩
        split
        · exact Int.le_refl _
        · exact i2
theorem fmin_spec (g : Int × Int → Int) (b : Int) (L : List (Int × Int)) : (fmin g b L).2 ≤ b ∧ (∀ v ∈ L, (fmin g b L).2 ≤ g v) ∧ ((fmin g b L).2 < b → (fmin g b L).1 ∈ L ∧ (fmin g b L).2 = g (fmin g b L).1) := by
  induction L using rev_ind with
  | nil => exact ⟨Int.le_refl _, fun v hv => by simp at hv, fun h => by exact absurd h (Int.lt_irrefl _)⟩
  | snoc L v ih =>
    obtain ⟨i1, i2, i3⟩ := ih
    rw [fmin_snoc]
    by_cases h : g v < (fmin g b L).2
    · rw [if_pos h]
      refine ⟨by show g v ≤ b; omega, fun x hx => ?_, fun _ => ⟨by simp, rfl⟩⟩
      rcases List.mem_append.1 hx with hx | hx
      · have := i2 x hx; show g v ≤ g x; omega
      · simp at hx; subst hx; exact Int.le_refl _
    · rw [if_neg h]
      refine ⟨i1, fun x hx => ?_, fun hb => ⟨by simp [(i3 hb).1], (i3 hb).2⟩⟩
      rcases List.mem_append.1 hx with hx | hx
      · exact i2 x hx
      · simp at hx; subst hx; omega
theorem moves_mem {p : List (List Int)} {a b : Nat} {x : Int × Int} : x ∈ moves p a b ↔ (x.1 = 0 ∧ x.2 ∈ arrL p a p.length) ∨ (x.1 = 1 ∧ x.2 ∈ arrL p b p.length) := by
  unfold moves
  rw [List.mem_append, List.mem_map, List.mem_map]
  constructor
  · rintro (⟨m, hm, rfl⟩ | ⟨m, hm, rfl⟩)
    · exact .inl ⟨rfl, hm⟩
    · exact .inr ⟨rfl, hm⟩
  · rintro (⟨h1, h2⟩ | ⟨h1, h2⟩)
    · exact .inl ⟨x.2, h2, by rw [← h1]⟩
    · exact .inr ⟨x.2, h2, by rw [← h1]⟩
theorem moves_node {p : List (List Int)} {a b : Nat} : ∀ x ∈ moves p a b, ∃ k : Nat, x.2 = k ∧ k < p.length := fun x hx => by
  rcases moves_mem.1 hx with ⟨_, h⟩ | ⟨_, h⟩ <;> (obtain ⟨k, e, hk, _⟩ := arrL_mem.1 h; exact ⟨k, e, hk⟩)
/-- Two nodes that are apart have a move each answer to which holds shorter. -/
theorem move_wins {p : List (List Int)} {a b : Nat} (h : simB p a b = false) : ∃ x ∈ moves p a b, moveZ p a b x < heldN p a b := by
  obtain ⟨h1, h2, h3⟩ := heldN_apart h
  have hN := h2 _ (Nat.le_refl _)
  have hN1 := h3 (heldN p a b + 1) (Nat.lt_succ_self _)
  have key : ∀ m o : Nat, (∀ j, j < p.length → arr p o j = true → left p (heldN p a b) m j = false) → longA p m o < heldN p a b := by
    intro m o hno
    by_cases he : arrL p o p.length = []
    · rw [(bestA_none he).2]; omega
    · obtain ⟨v, e1, e2, e3, e4, e5⟩ := bestA_some (m := m) he
      rw [e4]
      have hv := hno v e2 e3
      have hs : simB p m v = false := by
        cases hs : simB p m v
        · rfl
        · have : left p (heldN p a b) m v = true := left_anti (s := p.length) (by omega) hs
          rw [hv] at this; cases this
      obtain ⟨_, g2, _⟩ := heldN_apart hs
      rcases Nat.lt_or_ge (heldN p m v) (heldN p a b) with hlt | hge
      · omega
      · rw [g2 _ hge] at hv; cases hv
  have hm : ¬ (mtch p (left p (heldN p a b)) a b = true ∧ mtch p (left p (heldN p a b)) b a = true) := fun hh => by
    have := left_succ.2 ⟨hN, hh.1, hh.2⟩
    rw [hN1] at this; cases this
  have hno : ∀ c d : Nat, mtch p (left p (heldN p a b)) c d = false → ∃ m, m < p.length ∧ arr p c m = true ∧ ∀ j, j < p.length → arr p d j = true → left p (heldN p a b) m j = false := by
    intro c d hmt
    apply Classical.byContradiction
    intro hn
    have : mtch p (left p (heldN p a b)) c d = true := mtch_iff.2 fun k hk hck => by
      apply Classical.byContradiction
      intro hn2
      apply hn
      refine ⟨k, hk, hck, fun j hj hdj => ?_⟩
      cases e : left p (heldN p a b) k j
      · rfl
      · exact absurd ⟨j, hj, hdj, e⟩ hn2
    rw [hmt] at this; cases this
  cases e1 : mtch p (left p (heldN p a b)) a b
  · obtain ⟨m, m1, m2, m3⟩ := hno a b e1
    refine ⟨(0, (m : Int)), moves_mem.2 (.inl ⟨rfl, arrL_mem.2 ⟨m, rfl, m1, m2⟩⟩), ?_⟩
    unfold moveZ
    simp only [Int.toNat_natCast, if_true]
    exact key m b m3
  · cases e2 : mtch p (left p (heldN p a b)) b a
    · obtain ⟨m, m1, m2, m3⟩ := hno b a e2
      refine ⟨(1, (m : Int)), moves_mem.2 (.inr ⟨rfl, arrL_mem.2 ⟨m, rfl, m1, m2⟩⟩), ?_⟩
      unfold moveZ
      simp only [Int.toNat_natCast]
      rw [if_neg (by decide)]
      exact key m a m3
    · exact absurd ⟨e1, e2⟩ hm
/-- The best move of two nodes that are apart. -/
theorem bestM_spec {p : List (List Int)} {a b : Nat} (h5 : p.length ≤ 5) (h : simB p a b = false) :
    bestM p a b ∈ moves p a b ∧ moveZ p a b (bestM p a b) < heldN p a b ∧ (fmin (move5 p a b) 6 (moves p a b)).1 = bestM p a b := by
  obtain ⟨x, hx, hlt⟩ := move_wins h
  obtain ⟨s1, s2, s3⟩ := fmin_spec (moveZ p a b) 1000 (moves p a b)
  have hn := (heldN_apart h).1
  have hle := s2 x hx
  obtain ⟨t1, t2⟩ := s3 (by omega)
  refine ⟨t1, ?_, ?_⟩
  · show moveZ p a b (fmin (moveZ p a b) 1000 (moves p a b)).1 < _
    rw [← t2]; omega
  · rcases fmin_phi (a := a) (b := b) h5 (moves p a b) moves_node with ⟨_, e⟩ | ⟨e, _⟩
    · rw [e]; rfl
    · omega
end Go.Hyp
