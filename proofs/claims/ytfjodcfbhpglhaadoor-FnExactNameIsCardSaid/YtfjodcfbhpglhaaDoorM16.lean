/- The nodes that are reached, as the reference finds them: spec.ReachedFrom. Codes of sets, and ways that come back. No program in sight. -/
import Derived.Test.YtfjodcfbhpglhaaDoorM6
import Derived.Test.YtfjodcfbhpglhaaDoorM8
namespace Go.Hyp
open Go.RowKit Go.Deep
theorem reaN_succ {p : List (List Int)} {i r j : Nat} : reaN p i (r + 1) j = true ↔ reaN p i r j = true ∨ ∃ k, k < p.length ∧ reaN p i r k = true ∧ arr p k j = true := by
  constructor
  · intro h
    unfold reaN at h
    rw [Bool.or_eq_true] at h
    rcases h with h | h
    · exact .inl h
    · rw [List.any_eq_true] at h
      obtain ⟨k, hk, h⟩ := h
      rw [Bool.and_eq_true] at h
      exact .inr ⟨k, List.mem_range.1 hk, h⟩
  · intro h
    unfold reaN
    rw [Bool.or_eq_true]
    rcases h with h | ⟨k, hk, h1, h2⟩
    · exact .inl h
    · exact .inr (List.any_eq_true.2 ⟨k, List.mem_range.2 hk, by rw [h1, h2]; rfl⟩)
theorem reaN_mono {p : List (List Int)} {i r s j : Nat} (h : r ≤ s) (hr : reaN p i r j = true) : reaN p i s j = true := by
  induction s with
  | zero =>
    obtain rfl : r = 0 := by omega
    exact hr
  | succ s ih =>
    by_cases e : r = s + 1
    · subst e; exact hr
    · exact reaN_succ.2 (.inl (ih (by omega)))
theorem reaN_still {p : List (List Int)} {i r : Nat} (h : ∀ j, j < p.length → reaN p i (r + 1) j = true → reaN p i r j = true) : ∀ s j, j < p.length → reaN p i s j = true → reaN p i r j = true := by
  intro s
  induction s with
  | zero => intro j _ hs; exact reaN_mono (Nat.zero_le _) hs
  | succ s ih =>
    intro j hj hs
    rcases reaN_succ.1 hs with h1 | ⟨k, hk, h1, h2⟩
    · exact ih j hj h1
    · exact h j hj (reaN_succ.2 (.inr ⟨k, hk, ih k hk h1, h2⟩))
theorem reaN_full {p : List (List Int)} {i j : Nat} (hi : i < p.length) (hj : j < p.length) (h : Rea p i j) : reaN p i p.length j = true := by
  have key : ∃ r, r < p.length ∧ ∀ j, j < p.length → reaN p i (r + 1) j = true → reaN p i r j = true := by
    apply Classical.byContradiction
    intro hno
    have hc : ∀ r, r ≤ p.length → r + 1 ≤ ((List.range p.length).filter (reaN p i r)).length := by
      intro r
      induction r with
      | zero =>
        intro _
        have : i ∈ (List.range p.length).filter (reaN p i 0) := List.mem_filter.2 ⟨List.mem_range.2 hi, by simp [reaN]⟩
        exact List.length_pos_of_mem this
      | succ r ih =>
        intro hr
        have h1 := ih (by omega)
        have h2 : ∃ j, j < p.length ∧ reaN p i (r + 1) j = true ∧ reaN p i r j = false := by
          apply Classical.byContradiction
          intro hn
          apply hno
          refine ⟨r, by omega, fun j hj hs => ?_⟩
          cases e : reaN p i r j
          · exact absurd ⟨j, hj, hs, e⟩ hn
          · rfl
        obtain ⟨j, hj, h3, h4⟩ := h2
        have := filter_lt (reaN p i r) (reaN p i (r + 1)) (List.range p.length) (fun x _ hx => reaN_mono (Nat.le_succ _) hx) j (List.mem_range.2 hj) h4 h3
        omega
    have h1 := hc p.length (Nat.le_refl _)
    have h2 := List.length_filter_le (reaN p i p.length) (List.range p.length)
    rw [List.length_range] at h2
    omega
  obtain ⟨r, hr, hst⟩ := key
  obtain ⟨s, hs⟩ := h
  exact reaN_mono (Nat.le_of_lt hr) (reaN_still hst s j hj hs)
/-- What the bits of a number say of the nodes that are reached. -/
structure Bset (p : List (List Int)) (i r S : Nat) : Prop where
  lt : S < 65536
  sound : ∀ k, k < p.length → S.testBit k = true → Rea p i k
  cover : ∀ k, k < p.length → reaN p i r k = true → S.testBit k = true
theorem Bset.start {p : List (List Int)} {i : Nat} (hi : i < 16) : Bset p i 0 (2 ^ i) :=
  ⟨pow_lt16 hi, fun k _ h => by rw [Nat.testBit_two_pow] at h; simp at h; subst h; exact Rea.refl p i, fun k _ h => by simp [reaN] at h; subst h; simp⟩
theorem Bset.put {p : List (List Int)} {i r S k j : Nat} (h : Bset p i r S) (hj : j < 16) (hk : k < p.length) (hb : S.testBit k = true) (ha : arr p k j = true) : Bset p i r (S ||| 2 ^ j) := by
  refine ⟨Nat.or_lt_two_pow (n := 16) h.lt (pow_lt16 hj), fun m hm hb' => ?_, fun m hm hr => ?_⟩
  · rw [testBit_put] at hb'
    rw [Bool.or_eq_true] at hb'
    rcases hb' with e | e
    · exact h.sound m hm e
    · simp at e; subst e; exact (h.sound k hk hb).step hk ha
  · rw [testBit_put, h.cover m hm hr]; rfl
theorem bit_val (S k : Nat) : S / 2 ^ k % 2 = if S.testBit k then 1 else 0 := by
  rw [Nat.testBit_eq_decide_div_mod_eq]
  by_cases h : S / 2 ^ k % 2 = 1
  · rw [h]; simp
  · have : S / 2 ^ k % 2 = 0 := by omega
    rw [this]; simp
theorem shr_bit (S k : Nat) : ((S : Int) / 2 ^ k).tmod 2 = if S.testBit k then 1 else 0 := by
  have e : ((S : Int) / 2 ^ k) = ((S / 2 ^ k : Nat) : Int) := by rw [Int.natCast_ediv, Int.natCast_pow]; rfl
  rw [e, Int.tmod_eq_emod_of_nonneg (Int.natCast_nonneg _)]
  have := bit_val S k
  have e2 : ((S / 2 ^ k : Nat) : Int) % 2 = ((S / 2 ^ k % 2 : Nat) : Int) := by omega
  rw [e2, this]
  split <;> rfl
/-- The state behind some arrows of a round. -/
def Went (p : List (List Int)) (i r S k j : Nat) : Prop := ∀ a b, a < p.length → b < p.length → (a < k ∨ (a = k ∧ b < j)) → reaN p i r a = true → arr p a b = true → S.testBit b = true
theorem Went.put {p : List (List Int)} {i r S k j u : Nat} (h : Went p i r S k j) : Went p i r (S ||| 2 ^ u) k j := fun a b h1 h2 h3 h4 h5 => by
  rw [testBit_put, h a b h1 h2 h3 h4 h5]; rfl
theorem Went.next {p : List (List Int)} {i r S k j : Nat} (h : Went p i r S k j) (hb : reaN p i r k = true → arr p k j = true → S.testBit j = true) : Went p i r S k (j + 1) := fun a b h1 h2 h3 h4 h5 => by
  by_cases e : a = k ∧ b = j
  · obtain ⟨rfl, rfl⟩ := e; exact hb h4 h5
  · exact h a b h1 h2 (by omega) h4 h5
theorem Went.row {p : List (List Int)} {i r S k : Nat} (h : Went p i r S k p.length) : Went p i r S (k + 1) 0 := fun a b h1 h2 h3 h4 h5 => h a b h1 h2 (by omega) h4 h5
theorem Bset.round {p : List (List Int)} {i r S : Nat} (h : Bset p i r S) (hw : Went p i r S p.length 0) : Bset p i (r + 1) S :=
  ⟨h.lt, h.sound, fun k hk hr => by
    rcases reaN_succ.1 hr with h1 | ⟨a, ha, h1, h2⟩
    · exact h.cover k hk h1
    · exact hw a k ha hk (.inl ha) h1 h2⟩
/-- The nodes whose bits are set. -/
def bitL (S n : Nat) : List Int := ((List.range n).filter S.testBit).map Int.ofNat
theorem bitL_succ (S n : Nat) : bitL S (n + 1) = bitL S n ++ (if S.testBit n then [(n : Int)] else []) := by
  unfold bitL
  rw [List.range_succ, List.filter_append, List.map_append]
  cases h : S.testBit n <;> simp [h]
theorem bitL_mem {S n : Nat} {x : Int} : x ∈ bitL S n ↔ ∃ k : Nat, x = k ∧ k < n ∧ S.testBit k = true := by
  unfold bitL
  rw [List.mem_map]
  constructor
  · rintro ⟨k, hk, rfl⟩
    rw [List.mem_filter, List.mem_range] at hk
    exact ⟨k, rfl, hk⟩
  · rintro ⟨k, rfl, h1, h2⟩
    exact ⟨k, List.mem_filter.2 ⟨List.mem_range.2 h1, h2⟩, rfl⟩
theorem bitL_lt (S n : Nat) : (bitL S n).Pairwise (· < ·) := by
  unfold bitL
  rw [List.pairwise_map]
  exact (List.pairwise_lt_range.filter _).imp (fun h => by show (Int.ofNat _) < (Int.ofNat _); simpa using h)
theorem bitL_le (S n : Nat) : (bitL S n).length ≤ n := by
  unfold bitL
  rw [List.length_map]
  have := List.length_filter_le S.testBit (List.range n)
  rwa [List.length_range] at this
theorem Bset.reach {p : List (List Int)} {i S : Nat} (h : Bset p i p.length S) (hi : i < p.length) : IsReach p i (bitL S p.length) :=
  ⟨bitL_lt _ _, fun x => bitL_mem.trans ⟨fun ⟨k, e, hk, hb⟩ => ⟨k, e, hk, h.sound k hk hb⟩, fun ⟨k, e, hk, hr⟩ => ⟨k, e, hk, h.cover k hk (reaN_full hi hk hr)⟩⟩⟩
end Go.Hyp
namespace Go.Proofs.YtfjodcfbhpglhaaDoor
open Go.RowKit Go.Hyp Go.Deep

set_option maxRecDepth 4000 in
set_option maxHeartbeats 1000000 in
theorem specReachedFrom_any (a : Option Addr) (cap : Nat) (p : List (List Int)) (n : Int) (w : World) (B C : Nat) (h : RdII w B C a p) (hC : C ≤ w.heap.size) (hl : p.length ≤ maxLen) :
    Calls Tryd.prog 57 #[.slice a p.length cap, .int .i64 n] w fun e w' => (nodeB p n = false ∧ (∃ a' c', e = .returned (.slice a' 0 c')) ∧ Below w.heap.size w w') ∨ ∃ i : Nat, n = i ∧ i < p.length ∧ picB p = true ∧ RetReach 3 p i w e w' := by
  have HB0 := Lib.hid (below_alloc w (.cells #[] 3))
  have F := Lib.hid (h.below HB0.out hC)
  have HL := Lib.hid hl
  unfold maxLen at hl
  clear h
  cases hp : picB p
  · have HP := Lib.hid hp
    clear hp
    go_enter Tryd.func57, Tryd.ntmps57
    go_wp2_with fail
    refine (specPictureOk_any _ _ _ _ B C F.out HL.out).mono ?_
    rintro e w' ⟨rfl, rfl⟩
    rw [HP.out]
    go_wp2_with fail
    go_ret
    exact .inl ⟨by unfold nodeB; rw [HP.out]; rfl, ⟨_, _, rfl⟩, HB0.out⟩
  · have HP := Lib.hid hp
    obtain ⟨sq, s1, s5⟩ := picB_sq hp
    have HS := Lib.hid sq
    clear hp sq
    by_cases hr : 0 ≤ n ∧ n ≤ (p.length : Int) - 1
    · obtain ⟨i, rfl⟩ := Int.eq_ofNat_of_zero_le hr.1
      have hi : i < p.length := by omega
      have HD : Hid ((decide (0 ≤ (i : Int)) && decide ((i : Int) ≤ (p.length : Int) - 1)) = true) := Lib.hid (by simp; omega)
      have HW := Lib.hid (wrap_pow (show i < 16 by omega))
      have HST := Lib.hid (Bset.start (p := p) (show i < 16 by omega))
      clear hr
      go_enter Tryd.func57, Tryd.ntmps57
      go_wp2_with fail
      refine (specPictureOk_any _ _ _ _ B C F.out HL.out).mono ?_
      rintro e w' ⟨rfl, rfl⟩
      rw [HP.out]
      go_wp2_with fail
      refine (l1In_any _ _ _ _).mono ?_
      rintro e w' ⟨rfl, rfl⟩
      rw [HD.out]
      go_wp2_with fail
      go_loop [6, 7] (fun s c => ∃ r S : Nat, r ≤ p.length ∧ c = .int .i64 r ∧ s = .int .i64 S ∧ Bset p i r S) (fun _ c => p.length - (intOf c).toNat)
      case atStart => exact ⟨0, 2 ^ i, Nat.zero_le _, rfl, by rw [HW.out], HST.out⟩
      case round =>
        obtain ⟨r, S, hr, rfl, rfl, hS⟩ := hrel
        have HSS := Lib.hid hS
        clear hS
        by_cases hlt : r < p.length
        · go_wp2_with fail
          go_loop [6, 8] (fun s c => ∃ k S : Nat, k ≤ p.length ∧ c = .int .i64 k ∧ s = .int .i64 S ∧ Bset p i r S ∧ Went p i r S k 0) (fun _ c => p.length - (intOf c).toNat)
          case atStart => exact ⟨0, S, Nat.zero_le _, rfl, rfl, HSS.out, fun a b _ _ h => by omega⟩
          case round =>
            obtain ⟨k, S2, hk, rfl, rfl, hS, hW⟩ := hrel
            have HS2 := Lib.hid hS
            have HW2 := Lib.hid hW
            clear hS hW HSS
            by_cases hlt2 : k < p.length
            · go_wp2_with fail
              go_loop [6, 9] (fun s c => ∃ j S : Nat, j ≤ p.length ∧ c = .int .i64 j ∧ s = .int .i64 S ∧ Bset p i r S ∧ Went p i r S k j) (fun _ c => p.length - (intOf c).toNat)
              case atStart => exact ⟨0, S2, Nat.zero_le _, rfl, rfl, HS2.out, HW2.out⟩
              case round =>
                obtain ⟨j, S3, hj, rfl, rfl, hS, hW⟩ := hrel
                have HS3 := Lib.hid hS
                have HW3 := Lib.hid hW
                clear hS hW HS2 HW2
                by_cases hlt3 : j < p.length
                · obtain ⟨b, off, b', off', c', rfl, _, hbC, hc, _, hbC', hd⟩ := F.out.bit HS.out k j hlt2 hlt3
                  have hsh := shr_bit S3 k
                  cases hbit : S3.testBit k
                  · rw [hbit] at hsh
                    have HN : Hid (Went p i r S3 k (j + 1)) := Lib.hid (HW3.out.next (fun h _ => by rw [HS3.out.cover k hlt2 h] at hbit; cases hbit))
                    simp only [Bool.false_eq_true, if_false] at hsh
                    clear hbit hd
                    go_wp2_with fail
                    go_round
                    case rel => exact ⟨j + 1, S3, by omega, by go_num, rfl, HS3.out, HN.out⟩
                    case measure => simp [intOf]; omega
                  · rw [hbit] at hsh
                    simp only [if_true] at hsh
                    cases hx : arr p k j
                    · rw [hx] at hd
                      have HN : Hid (Went p i r S3 k (j + 1)) := Lib.hid (HW3.out.next (fun _ h => by rw [hx] at h; cases h))
                      simp only [Bool.false_eq_true, if_false] at hd
                      clear hbit hx
                      go_wp2_with fail
                      go_round
                      case rel => exact ⟨j + 1, S3, by omega, by go_num, rfl, HS3.out, HN.out⟩
                      case measure => simp [intOf]; omega
                    · rw [hx] at hd
                      have HN : Hid (Went p i r (S3 ||| 2 ^ j) k (j + 1)) := Lib.hid (HW3.out.put.next (fun _ _ => by rw [testBit_put]; simp))
                      have HP3 := Lib.hid (HS3.out.put (show j < 16 by omega) hlt2 hbit hx)
                      have HOB := Lib.hid (or_bit HS3.out.lt (show j < 16 by omega))
                      simp only [if_true] at hd
                      clear hbit hx
                      go_wp2_with fail
                      go_round
                      case rel => exact ⟨j + 1, S3 ||| 2 ^ j, by omega, by go_num, by rw [HOB.out], HP3.out, HN.out⟩
                      case measure => simp [intOf]; omega
                · obtain rfl : j = p.length := by omega
                  have HN := Lib.hid HW3.out.row
                  go_wp2_with fail
                  go_round
                  case rel => exact ⟨k + 1, S3, by omega, by go_num, rfl, HS3.out, HN.out⟩
                  case measure => simp [intOf]; omega
            · obtain rfl : k = p.length := by omega
              have HN := Lib.hid (HS2.out.round HW2.out)
              go_wp2_with fail
              go_round
              case rel => exact ⟨r + 1, S2, by omega, by go_num, rfl, HN.out⟩
              case measure => simp [intOf]; omega
        · obtain rfl : r = p.length := by omega
          have HRE := Lib.hid (HSS.out.reach hi)
          have HO0 := Lib.hid ((OwI_empty w 3).mono (Nat.le_refl _) (show w.heap.size + 1 ≤ (w.alloc (.cells #[] 3)).heap.size by simp))
          have h00 : bitL S 0 = [] := rfl
          have H00 := Lib.hid h00
          clear h00
          go_wp2_with fail
          go_loopw [5, 10] (fun o c wr => ∃ (k : Nat) (x : Option Addr) (cc : Nat), k ≤ p.length ∧ c = .int .i64 k ∧ o = .slice x (bitL S k).length cc ∧ OwI wr 3 w.heap.size wr.heap.size x cc (bitL S k) ∧ Below w.heap.size w wr) (fun _ c _ => p.length - (intOf c).toNat)
          case atStart => exact ⟨0, _, 0, Nat.zero_le _, rfl, rfl, HO0.out, HB0.out⟩
          case round =>
            obtain ⟨k, x, cc, hk, rfl, rfl, ho, hb⟩ := hrel
            have HO := Lib.hid ho
            have HB := Lib.hid hb
            have hkl := bitL_le S k
            clear ho hb
            by_cases hlt2 : k < p.length
            · have hsh := shr_bit S k
              cases hbit : S.testBit k
              · rw [hbit] at hsh
                simp only [Bool.false_eq_true, if_false] at hsh
                have HL2 : Hid (bitL S (k + 1) = bitL S k) := Lib.hid (by rw [bitL_succ, hbit]; simp)
                clear hbit
                go_wp2_with fail
                go_roundw
                case rel => exact ⟨k + 1, x, cc, by omega, by go_num, by rw [HL2.out], by rw [HL2.out]; exact HO.out, HB.out⟩
                case measure => simp [intOf]; omega
              · rw [hbit] at hsh
                simp only [if_true] at hsh
                have HL2 : Hid (bitL S (k + 1) = bitL S k ++ [(k : Int)]) := Lib.hid (by rw [bitL_succ, hbit]; simp)
                clear hbit
                go_wp2_with (at_builtin; go_loud (refine wpList_appI Tryd.underlying38 Tryd.infoInt _ rfl _ _ rfl w.heap.size wr.heap.size x cc (bitL S k) rfl (HO.out.agr ((Agr.refl _ _ _).alloc (Nat.le_refl _) _)) (by have := HB.out.size; simp; omega) ⟨wr.heap.size, 0, none⟩ k rfl (new_cellE _ _ _ rfl) (by omega) ?_); intro g c1 w1 hown hgrow hat hg)
                have HO1 := Lib.hid hown
                have HB1 := Lib.hid (below_app HB.out hgrow (HO.out.app_in (Nat.le_refl _)) (Nat.le_refl _) (Nat.le_refl _))
                clear hown hgrow hat
                go_wp2_with fail
                go_roundw
                case rel => exact ⟨k + 1, some ⟨g, 0, none⟩, c1, by omega, by go_num, by rw [HL2.out]; simp, by rw [HL2.out]; exact HO1.out, HB1.out⟩
                case measure => simp [intOf]; omega
            · obtain rfl : k = p.length := by omega
              go_wp2_with fail
              go_ret
              refine .inr ⟨i, rfl, hi, by first | trivial | exact HP.out, bitL S p.length, x, cc, rfl, HRE.out, hkl, HO.out, HB.out⟩
    · have HD : Hid ((decide (0 ≤ n) && decide (n ≤ (p.length : Int) - 1)) = false) := Lib.hid (by
        cases h : (decide (0 ≤ n) && decide (n ≤ (p.length : Int) - 1))
        · rfl
        · exact absurd (by simpa using h) hr)
      have HNO : Hid (nodeB p n = false) := Lib.hid (by
        cases h : nodeB p n
        · rfl
        · obtain ⟨i, rfl, hi, _⟩ := nodeB_nat h
          exact absurd ⟨by omega, by omega⟩ hr)
      clear hr
      go_enter Tryd.func57, Tryd.ntmps57
      go_wp2_with fail
      refine (specPictureOk_any _ _ _ _ B C F.out HL.out).mono ?_
      rintro e w' ⟨rfl, rfl⟩
      rw [HP.out]
      go_wp2_with fail
      refine (l1In_any _ _ _ _).mono ?_
      rintro e w' ⟨rfl, rfl⟩
      rw [HD.out]
      go_wp2_with fail
      go_ret
      exact .inl ⟨by first | trivial | exact HNO.out, ⟨_, _, rfl⟩, HB0.out⟩
end Go.Proofs.YtfjodcfbhpglhaaDoor
namespace Go.Hyp
/-- v is a member of i. -/
def Mem (p : List (List Int)) (i v : Nat) : Prop := v < p.length ∧ arr p i v = true
theorem Rea.trans {p : List (List Int)} {i j k : Nat} (h : Rea p i j) (h2 : Rea p j k) : Rea p i k :=
  Rea.ind (Q := fun x => Rea p i x) h (fun _ _ hx hlt ha => hx.step hlt ha) k h2
/-- The first arrow of a way. -/
theorem Rea.head {p : List (List Int)} {i j : Nat} (h : Rea p i j) (hj : j < p.length) : i = j ∨ ∃ u, Mem p i u ∧ Rea p u j := by
  have key : j < p.length → i = j ∨ ∃ u, Mem p i u ∧ Rea p u j := by
    refine Rea.ind (Q := fun x => x < p.length → i = x ∨ ∃ u, Mem p i u ∧ Rea p u x) (fun _ => .inl rfl) (fun x y hx hlt ha hy => ?_) j h
    rcases hx hlt with rfl | ⟨u, h1, h2⟩
    · exact .inr ⟨y, ⟨hy, ha⟩, Rea.refl p y⟩
    · exact .inr ⟨u, h1, h2.step hlt ha⟩
  exact key hj
/-- One comes from a node by one arrow or more back to it. -/
def OnLoop (p : List (List Int)) (i : Nat) : Prop := ∃ u, Mem p i u ∧ Rea p u i
/-- One comes from a node back to some node. -/
def Back (p : List (List Int)) (i : Nat) : Prop := ∃ v, v < p.length ∧ Rea p i v ∧ OnLoop p v
/-- No way goes on for ever. -/
def Grd (p : List (List Int)) (i : Nat) : Prop := _root_.Acc (fun v x => Mem p x v) i
theorem Grd.mem {p : List (List Int)} {i v : Nat} (h : Grd p i) (hv : Mem p i v) : Grd p v := h.inv hv
theorem Grd.no_loop {p : List (List Int)} {i : Nat} (h : Grd p i) : i < p.length → ¬ OnLoop p i := by
  induction h with
  | intro i _ ih =>
    rintro hi ⟨u, hu, hr⟩
    rcases hr.head hi with rfl | ⟨u', h1, h2⟩
    · exact ih u hu hu.1 ⟨u, hu, Rea.refl p u⟩
    · exact ih u hu hu.1 ⟨u', h1, h2.step hi hu.2⟩
theorem Grd.reach {p : List (List Int)} {i v : Nat} (h : Grd p i) (hr : Rea p i v) (hv : v < p.length) : Grd p v :=
  (Rea.ind (Q := fun x => x < p.length → Grd p x) (fun _ => h) (fun _ _ hx hlt ha hy => (hx hlt).mem ⟨hy, ha⟩) v hr) hv
theorem Grd.no_back {p : List (List Int)} {i : Nat} (h : Grd p i) : ¬ Back p i := fun ⟨_, hv, hr, hl⟩ => (h.reach hr hv).no_loop hv hl
/-- How many nodes are reached. -/
def reachN (p : List (List Int)) (i : Nat) : Nat := ((List.range p.length).filter (reaN p i p.length)).length
theorem Back.step {p : List (List Int)} {i v : Nat} (hi : i < p.length) (hv : Mem p i v) (h : Back p v) : Back p i := by
  obtain ⟨x, hx, hr, hl⟩ := h
  exact ⟨x, hx, ((Rea.refl p i).step hi hv.2).trans hr, hl⟩
theorem reachN_lt {p : List (List Int)} {i v : Nat} (hi : i < p.length) (hv : Mem p i v) (h : ¬ Back p i) : reachN p v < reachN p i := by
  refine filter_lt _ _ _ (fun x hx hr => ?_) i (List.mem_range.2 hi) ?_ (reaN_full hi hi (Rea.refl p i))
  · exact reaN_full hi (List.mem_range.1 hx) (((Rea.refl p i).step hi hv.2).trans ⟨_, hr⟩)
  · cases e : reaN p v p.length i
    · rfl
    · exact absurd ⟨i, hi, Rea.refl p i, v, hv, _, e⟩ h
theorem grd_of {p : List (List Int)} : ∀ (n i : Nat), reachN p i ≤ n → i < p.length → ¬ Back p i → Grd p i := by
  intro n
  induction n with
  | zero =>
    intro i hn hi h
    have : i ∈ (List.range p.length).filter (reaN p i p.length) := List.mem_filter.2 ⟨List.mem_range.2 hi, reaN_full hi hi (Rea.refl p i)⟩
    have := List.length_pos_of_mem this
    unfold reachN at hn
    omega
  | succ n ih =>
    intro i hn hi h
    refine ⟨_, fun v hv => ?_⟩
    have := reachN_lt hi hv h
    exact ih v (by omega) hv.1 (fun hb => h (hb.step hi hv))
theorem grd_iff {p : List (List Int)} {i : Nat} (hi : i < p.length) : Grd p i ↔ ¬ Back p i := ⟨Grd.no_back, grd_of _ i (Nat.le_refl _) hi⟩
/-- That no way goes on for ever is a fact of the set. -/
theorem Grd.same {p q : List (List Int)} {i : Nat} (h : Grd p i) : ∀ j, Same p i q j → Grd q j := by
  induction h with
  | intro i _ ih =>
    intro j hs
    refine ⟨_, fun u hu => ?_⟩
    obtain ⟨v, hv, ha, hsv⟩ := hs.symm.to hu.1 hu.2
    exact ih v ⟨hv, ha⟩ u hsv.symm
/-! ### codes -/
/-- The set at i has the code n. -/
inductive Code (p : List (List Int)) : Nat → Nat → Prop
  | mk (i n : Nat) (c : Nat → Nat) (h1 : ∀ v, Mem p i v → c v ≤ 15) (h2 : ∀ v, Mem p i v → Code p v (c v)) (h3 : ∀ m, n.testBit m = true ↔ ∃ v, Mem p i v ∧ c v = m) : Code p i n
theorem Code.grd {p : List (List Int)} {i n : Nat} (h : Code p i n) : Grd p i := by
  induction h with
  | mk i n c _ _ _ ih => exact ⟨_, fun v hv => ih v hv⟩
theorem Code.unique {p q : List (List Int)} {i n : Nat} (h : Code p i n) : ∀ j m, Same p i q j → Code q j m → n = m := by
  induction h with
  | mk i n c h1 h2 h3 ih =>
    intro j m hs hm
    cases hm with
    | mk _ _ d g1 g2 g3 =>
      apply Nat.eq_of_testBit_eq
      intro b
      rw [Bool.eq_iff_iff, h3, g3]
      constructor
      · rintro ⟨v, hv, rfl⟩
        obtain ⟨u, hu, ha, hsu⟩ := hs.to hv.1 hv.2
        exact ⟨u, ⟨hu, ha⟩, (ih v hv u (d u) hsu (g2 u ⟨hu, ha⟩)).symm⟩
      · rintro ⟨u, hu, rfl⟩
        obtain ⟨v, hv, ha, hsv⟩ := hs.symm.to hu.1 hu.2
        exact ⟨v, ⟨hv, ha⟩, ih v ⟨hv, ha⟩ u (d u) hsv.symm (g2 u hu)⟩
theorem Code.one {p : List (List Int)} {i n m : Nat} (hi : i < p.length) (h : Code p i n) (k : Code p i m) : n = m := h.unique i m (Same.refl hi) k
theorem Code.same {p q : List (List Int)} {i n : Nat} (h : Code p i n) : ∀ j, Same p i q j → Code q j n := by
  induction h with
  | mk i n c h1 h2 h3 ih =>
    intro j hs
    have hex : ∀ u, ∃ v, Mem q j u → (Mem p i v ∧ Same p v q u) := fun u => by
      by_cases hu : Mem q j u
      · obtain ⟨v, hv, ha, hsv⟩ := hs.symm.to hu.1 hu.2
        exact ⟨v, fun _ => ⟨⟨hv, ha⟩, hsv.symm⟩⟩
      · exact ⟨0, fun h => absurd h hu⟩
    obtain ⟨f, hf⟩ := Classical.axiomOfChoice hex
    refine .mk j n (fun u => c (f u)) (fun u hu => h1 _ (hf u hu).1) (fun u hu => ih (f u) (hf u hu).1 u (hf u hu).2) (fun m => ?_)
    rw [h3]
    constructor
    · rintro ⟨v, hv, rfl⟩
      obtain ⟨u, hu, ha, hsu⟩ := hs.to hv.1 hv.2
      refine ⟨u, ⟨hu, ha⟩, ?_⟩
      have h4 := ih (f u) (hf u ⟨hu, ha⟩).1 u (hf u ⟨hu, ha⟩).2
      exact (Code.unique (h2 v hv) u _ hsu h4).symm
    · rintro ⟨u, hu, rfl⟩
      exact ⟨f u, (hf u hu).1, rfl⟩
theorem Code.inj {p q : List (List Int)} {i n : Nat} (h : Code p i n) : i < p.length → ∀ j, j < q.length → Code q j n → Same p i q j := by
  induction h with
  | mk i n c h1 h2 h3 ih =>
    intro hi j hj hq
    cases hq with
    | mk _ _ d g1 g2 g3 =>
      refine same_of_members hi hj (fun v hv ha => ?_) (fun u hu ha => ?_)
      · obtain ⟨u, hu, e⟩ := (g3 (c v)).1 ((h3 (c v)).2 ⟨v, ⟨hv, ha⟩, rfl⟩)
        exact ⟨u, hu.1, hu.2, ih v ⟨hv, ha⟩ hv u hu.1 (e ▸ g2 u hu)⟩
      · obtain ⟨v, hv, e⟩ := (h3 (d u)).1 ((g3 (d u)).2 ⟨u, ⟨hu, ha⟩, rfl⟩)
        exact ⟨v, hv.1, hv.2, ih v hv hv.1 u hu (e ▸ g2 u ⟨hu, ha⟩)⟩
/-- Codes are equal exactly if the sets are. -/
theorem Code.iff {p q : List (List Int)} {i j n m : Nat} (hi : i < p.length) (hj : j < q.length) (h : Code p i n) (k : Code q j m) : n = m ↔ Same p i q j :=
  ⟨fun e => h.inj hi j hj (e ▸ k), fun hs => h.unique j m hs k⟩
theorem Code.has {p q : List (List Int)} {i j n m : Nat} (hj : j < q.length) (h : Code p i n) (k : Code q j m) : n.testBit m = true ↔ ∃ v, Mem p i v ∧ Same p v q j := by
  cases h with
  | mk _ _ c h1 h2 h3 =>
    rw [h3]
    constructor
    · rintro ⟨v, hv, rfl⟩
      exact ⟨v, hv, (h2 v hv).inj hv.1 j hj k⟩
    · rintro ⟨v, hv, hs⟩
      exact ⟨v, hv, (h2 v hv).unique j m hs k⟩
theorem Code.mem_le {p : List (List Int)} {i n v m : Nat} (h : Code p i n) (hv : Mem p i v) (k : Code p v m) : m ≤ 15 := by
  cases h with
  | mk _ _ c h1 h2 h3 => rw [← (h2 v hv).one hv.1 k]; exact h1 v hv
theorem Code.mem {p : List (List Int)} {i n v : Nat} (h : Code p i n) (hv : Mem p i v) : ∃ m, m ≤ 15 ∧ Code p v m := by
  cases h with
  | mk _ _ c h1 h2 h3 => exact ⟨_, h1 v hv, h2 v hv⟩
theorem Code.lt {p : List (List Int)} {i n : Nat} (h : Code p i n) : n < 65536 := by
  cases h with
  | mk _ _ c h1 h2 h3 =>
    have : n < 2 ^ 16 := by
      apply Nat.lt_pow_two_of_testBit
      intro b hb
      cases e : n.testBit b
      · rfl
      · obtain ⟨v, hv, e'⟩ := (h3 b).1 e
        have := h1 v hv
        omega
    exact this
end Go.Hyp
