/- Codes of sets, and ways that come back. No program in sight. -/
import Derived.Test.YtiiohodkfipfbaaGreatDoorReachS
namespace Go.Hyp
/-- v is a member of i. -/
def Mem (p : List (List Int)) (i v : Nat) : Prop := v < p.length ∧ arr p i v = true
theorem Rea.trans {p : List (List Int)} {i j k : Nat} (h : Rea p i j) (h2 : Rea p j k) : Rea p i k :=
  Rea.ind (Q := fun x => Rea p i x) h (fun _ _ hx hlt ha => hx.step hlt ha) k h2
/-- The first arrow of a way. -/
theorem Rea.head {p : List (List Int)} {i j : Nat} (h : Rea p i j) (hj : j < p.length) : i = j ∨ ∃ u, Mem p i u ∧ Rea p u j := by
  have key : j < p.length → i = j ∨ ∃ u, Mem p i u ∧ Rea p u j := by
    refine Rea.ind (Q := fun x => x < p.length → i = x ∨ ∃ u, Mem p i u ∧ Rea p u x) (fun _ => .inl rfl) (fun x y hx hlt ha hy => ?_) j h
    rcases hx hlt with rfl | ⟨u, h1, h2⟩
    · exact .inr ⟨y, ⟨hy, ha⟩, Rea.refl p y⟩
    · exact .inr ⟨u, h1, h2.step hlt ha⟩
  exact key hj
/-- One comes from a node by one arrow or more back to it. -/
def OnLoop (p : List (List Int)) (i : Nat) : Prop := ∃ u, Mem p i u ∧ Rea p u i
/-- One comes from a node back to some node. -/
def Back (p : List (List Int)) (i : Nat) : Prop := ∃ v, v < p.length ∧ Rea p i v ∧ OnLoop p v
/-- No way goes on for ever. -/
def Grd (p : List (List Int)) (i : Nat) : Prop := _root_.Acc (fun v x => Mem p x v) i
theorem Grd.mem {p : List (List Int)} {i v : Nat} (h : Grd p i) (hv : Mem p i v) : Grd p v := h.inv hv
theorem Grd.no_loop {p : List (List Int)} {i : Nat} (h : Grd p i) : i < p.length → ¬ OnLoop p i := by
  induction h with
  | intro i _ ih =>
    rintro hi ⟨u, hu, hr⟩
    rcases hr.head hi with rfl | ⟨u', h1, h2⟩
    · exact ih u hu hu.1 ⟨u, hu, Rea.refl p u⟩
    · exact ih u hu hu.1 ⟨u', h1, h2.step hi hu.2⟩
theorem Grd.reach {p : List (List Int)} {i v : Nat} (h : Grd p i) (hr : Rea p i v) (hv : v < p.length) : Grd p v :=
  (Rea.ind (Q := fun x => x < p.length → Grd p x) (fun _ => h) (fun _ _ hx hlt ha hy => (hx hlt).mem ⟨hy, ha⟩) v hr) hv
theorem Grd.no_back {p : List (List Int)} {i : Nat} (h : Grd p i) : ¬ Back p i := fun ⟨_, hv, hr, hl⟩ => (h.reach hr hv).no_loop hv hl
/-- How many nodes are reached. -/
def reachN (p : List (List Int)) (i : Nat) : Nat := ((List.range p.length).filter (reaN p i p.length)).length
theorem Back.step {p : List (List Int)} {i v : Nat} (hi : i < p.length) (hv : Mem p i v) (h : Back p v) : Back p i := by
  obtain ⟨x, hx, hr, hl⟩ := h
  exact ⟨x, hx, ((Rea.refl p i).step hi hv.2).trans hr, hl⟩
theorem reachN_lt {p : List (List Int)} {i v : Nat} (hi : i < p.length) (hv : Mem p i v) (h : ¬ Back p i) : reachN p v < reachN p i := by
  refine filter_lt _ _ _ (fun x hx hr => ?_) i (List.mem_range.2 hi) ?_ (reaN_full hi hi (Rea.refl p i))
  · exact reaN_full hi (List.mem_range.1 hx) (((Rea.refl p i).step hi hv.2).trans ⟨_, hr⟩)
  · cases e : reaN p v p.length i
    · rfl
    · exact absurd ⟨i, hi, Rea.refl p i, v, hv, _, e⟩ h
theorem grd_of {p : List (List Int)} : ∀ (n i : Nat), reachN p i ≤ n → i < p.length → ¬ Back p i → Grd p i := by
  intro n
  induction n with
  | zero =>
    intro i hn hi h
    have : i ∈ (List.range p.length).filter (reaN p i p.length) := List.mem_filter.2 ⟨List.mem_range.2 hi, reaN_full hi hi (Rea.refl p i)⟩
    have := List.length_pos_of_mem this
    unfold reachN at hn
    omega
  | succ n ih =>
    intro i hn hi h
    refine ⟨_, fun v hv => ?_⟩
    have := reachN_lt hi hv h
    exact ih v (by omega) hv.1 (fun hb => h (hb.step hi hv))
theorem grd_iff {p : List (List Int)} {i : Nat} (hi : i < p.length) : Grd p i ↔ ¬ Back p i := ⟨Grd.no_back, grd_of _ i (Nat.le_refl _) hi⟩
/-- That no way goes on for ever is a fact of the set. -/
theorem Grd.same {p q : List (List Int)} {i : Nat} (h : Grd p i) : ∀ j, Same p i q j → Grd q j := by
  induction h with
  | intro i _ ih =>
    intro j hs
    refine ⟨_, fun u hu => ?_⟩
    obtain ⟨v, hv, ha, hsv⟩ := hs.symm.to hu.1 hu.2
    exact ih v ⟨hv, ha⟩ u hsv.symm
/-! ### codes -/
/-- The set at i has the code n. -/
inductive Code (p : List (List Int)) : Nat → Nat → Prop
  | mk (i n : Nat) (c : Nat → Nat) (h1 : ∀ v, Mem p i v → c v ≤ 15) (h2 : ∀ v, Mem p i v → Code p v (c v)) (h3 : ∀ m, n.testBit m = true ↔ ∃ v, Mem p i v ∧ c v = m) : Code p i n
theorem Code.grd {p : List (List Int)} {i n : Nat} (h : Code p i n) : Grd p i := by
  induction h with
  | mk i n c _ _ _ ih => exact ⟨_, fun v hv => ih v hv⟩
theorem Code.unique {p q : List (List Int)} {i n : Nat} (h : Code p i n) : ∀ j m, Same p i q j → Code q j m → n = m := by
  induction h with
  | mk i n c h1 h2 h3 ih =>
    intro j m hs hm
    cases hm with
    | mk _ _ d g1 g2 g3 =>
      apply Nat.eq_of_testBit_eq
      intro b
      rw [Bool.eq_iff_iff, h3, g3]
      constructor
      · rintro ⟨v, hv, rfl⟩
        obtain ⟨u, hu, ha, hsu⟩ := hs.to hv.1 hv.2
        exact ⟨u, ⟨hu, ha⟩, (ih v hv u (d u) hsu (g2 u ⟨hu, ha⟩)).symm⟩
      · rintro ⟨u, hu, rfl⟩
        obtain ⟨v, hv, ha, hsv⟩ := hs.symm.to hu.1 hu.2
        exact ⟨v, ⟨hv, ha⟩, ih v ⟨hv, ha⟩ u (d u) hsv.symm (g2 u hu)⟩
theorem Code.one {p : List (List Int)} {i n m : Nat} (hi : i < p.length) (h : Code p i n) (k : Code p i m) : n = m := h.unique i m (Same.refl hi) k
theorem Code.same {p q : List (List Int)} {i n : Nat} (h : Code p i n) : ∀ j, Same p i q j → Code q j n := by
  induction h with
  | mk i n c h1 h2 h3 ih =>
    intro j hs
    have hex : ∀ u, ∃ v, Mem q j u → (Mem p i v ∧ Same p v q u) := fun u => by
      by_cases hu : Mem q j u
      · obtain ⟨v, hv, ha, hsv⟩ := hs.symm.to hu.1 hu.2
        exact ⟨v, fun _ => ⟨⟨hv, ha⟩, hsv.symm⟩⟩
      · exact ⟨0, fun h => absurd h hu⟩
    obtain ⟨f, hf⟩ := Classical.axiomOfChoice hex
    refine .mk j n (fun u => c (f u)) (fun u hu => h1 _ (hf u hu).1) (fun u hu => ih (f u) (hf u hu).1 u (hf u hu).2) (fun m => ?_)
    rw [h3]
    constructor
    · rintro ⟨v, hv, rfl⟩
      obtain ⟨u, hu, ha, hsu⟩ := hs.to hv.1 hv.2
      refine ⟨u, ⟨hu, ha⟩, ?_⟩
      have h4 := ih (f u) (hf u ⟨hu, ha⟩).1 u (hf u ⟨hu, ha⟩).2
      exact (Code.unique (h2 v hv) u _ hsu h4).symm
    · rintro ⟨u, hu, rfl⟩
      exact ⟨f u, (hf u hu).1, rfl⟩
theorem Code.inj {p q : List (List Int)} {i n : Nat} (h : Code p i n) : i < p.length → ∀ j, j < q.length → Code q j n → Same p i q j := by
  induction h with
  | mk i n c h1 h2 h3 ih =>
    intro hi j hj hq
    cases hq with
    | mk _ _ d g1 g2 g3 =>
      refine same_of_members hi hj (fun v hv ha => ?_) (fun u hu ha => ?_)
      · obtain ⟨u, hu, e⟩ := (g3 (c v)).1 ((h3 (c v)).2 ⟨v, ⟨hv, ha⟩, rfl⟩)
        exact ⟨u, hu.1, hu.2, ih v ⟨hv, ha⟩ hv u hu.1 (e ▸ g2 u hu)⟩
      · obtain ⟨v, hv, e⟩ := (h3 (d u)).1 ((g3 (d u)).2 ⟨u, ⟨hu, ha⟩, rfl⟩)
        exact ⟨v, hv.1, hv.2, ih v hv hv.1 u hu (e ▸ g2 u ⟨hu, ha⟩)⟩
/-- Codes are equal exactly if the sets are. -/
theorem Code.iff {p q : List (List Int)} {i j n m : Nat} (hi : i < p.length) (hj : j < q.length) (h : Code p i n) (k : Code q j m) : n = m ↔ Same p i q j :=
  ⟨fun e => h.inj hi j hj (e ▸ k), fun hs => h.unique j m hs k⟩
theorem Code.has {p q : List (List Int)} {i j n m : Nat} (hj : j < q.length) (h : Code p i n) (k : Code q j m) : n.testBit m = true ↔ ∃ v, Mem p i v ∧ Same p v q j := by
  cases h with
  | mk _ _ c h1 h2 h3 =>
    rw [h3]
    constructor
    · rintro ⟨v, hv, rfl⟩
      exact ⟨v, hv, (h2 v hv).inj hv.1 j hj k⟩
    · rintro ⟨v, hv, hs⟩
      exact ⟨v, hv, (h2 v hv).unique j m hs k⟩
theorem Code.mem_le {p : List (List Int)} {i n v m : Nat} (h : Code p i n) (hv : Mem p i v) (k : Code p v m) : m ≤ 15 := by
  cases h with
  | mk _ _ c h1 h2 h3 => rw [← (h2 v hv).one hv.1 k]; exact h1 v hv
theorem Code.mem {p : List (List Int)} {i n v : Nat} (h : Code p i n) (hv : Mem p i v) : ∃ m, m ≤ 15 ∧ Code p v m := by
  cases h with
  | mk _ _ c h1 h2 h3 => exact ⟨_, h1 v hv, h2 v hv⟩
theorem Code.lt {p : List (List Int)} {i n : Nat} (h : Code p i n) : n < 65536 := by
  cases h with
  | mk _ _ c h1 h2 h3 =>
    have : n < 2 ^ 16 := by
      apply Nat.lt_pow_two_of_testBit
      intro b hb
      cases e : n.testBit b
      · rfl
      · obtain ⟨v, hv, e'⟩ := (h3 b).1 e
        have := h1 v hv
        omega
    exact this
end Go.Hyp
