/- The nodes that are reached, as the reference finds them: spec.ReachedFrom. Joined pictures, as the reference finds them: spec.l4Part, spec.JoinedOf. Codes of sets, and ways that come back. No program in sight. -/
import Derived.Test.YtfjodcfbhpglhaaM9
import Derived.Test.YtfjodcfbhpglhaaM11
import Derived.Test.YtfjodcfbhpglhaaM7
import Derived.Test.YtfjodcfbhpglhaaM3
import Derived.Test.YtfjodcfbhpglhaaM4
namespace Go.Hyp
open Go.RowKit Go.Deep
theorem reaN_succ {p : List (List Int)} {i r j : Nat} : reaN p i (r + 1) j = true ↔ reaN p i r j = true ∨ ∃ k, k < p.length ∧ reaN p i r k = true ∧ arr p k j = true := by
  constructor
  · intro h
    unfold reaN at h
    rw [Bool.or_eq_true] at h
    rcases h with h | h
    · exact .inl h
    · rw [List.any_eq_true] at h
      obtain ⟨k, hk, h⟩ := h
      rw [Bool.and_eq_true] at h
      exact .inr ⟨k, List.mem_range.1 hk, h⟩
  · intro h
    unfold reaN
    rw [Bool.or_eq_true]
    rcases h with h | ⟨k, hk, h1, h2⟩
    · exact .inl h
    · exact .inr (List.any_eq_true.2 ⟨k, List.mem_range.2 hk, by rw [h1, h2]; rfl⟩)
theorem reaN_mono {p : List (List Int)} {i r s j : Nat} (h : r ≤ s) (hr : reaN p i r j = true) : reaN p i s j = true := by
  induction s with
  | zero =>
    obtain rfl : r = 0 := by omega
    exact hr
  | succ s ih =>
    by_cases e : r = s + 1
    · subst e; exact hr
    · exact reaN_succ.2 (.inl (ih (by omega)))
theorem reaN_still {p : List (List Int)} {i r : Nat} (h : ∀ j, j < p.length → reaN p i (r + 1) j = true → reaN p i r j = true) : ∀ s j, j < p.length → reaN p i s j = true → reaN p i r j = true := by
  intro s
  induction s with
  | zero => intro j _ hs; exact reaN_mono (Nat.zero_le _) hs
  | succ s ih =>
    intro j hj hs
    rcases reaN_succ.1 hs with h1 | ⟨k, hk, h1, h2⟩
    · exact ih j hj h1
    · exact h j hj (reaN_succ.2 (.inr ⟨k, hk, ih k hk h1, h2⟩))
theorem reaN_full {p : List (List Int)} {i j : Nat} (hi : i < p.length) (hj : j < p.length) (h : Rea p i j) : reaN p i p.length j = true := by
  have key : ∃ r, r < p.length ∧ ∀ j, j < p.length → reaN p i (r + 1) j = true → reaN p i r j = true := by
    apply Classical.byContradiction
    intro hno
    have hc : ∀ r, r ≤ p.length → r + 1 ≤ ((List.range p.length).filter (reaN p i r)).length := by
      intro r
      induction r with
      | zero =>
        intro _
        have : i ∈ (List.range p.length).filter (reaN p i 0) := List.mem_filter.2 ⟨List.mem_range.2 hi, by simp [reaN]⟩
        exact List.length_pos_of_mem this
      | succ r ih =>
        intro hr
        have h1 := ih (by omega)
        have h2 : ∃ j, j < p.length ∧ reaN p i (r + 1) j = true ∧ reaN p i r j = false := by
          apply Classical.byContradiction
          intro hn
          apply hno
          refine ⟨r, by omega, fun j hj hs => ?_⟩
          cases e : reaN p i r j
          · exact absurd ⟨j, hj, hs, e⟩ hn
          · rfl
        obtain ⟨j, hj, h3, h4⟩ := h2
        have := filter_lt (reaN p i r) (reaN p i (r + 1)) (List.range p.length) (fun x _ hx => reaN_mono (Nat.le_succ _) hx) j (List.mem_range.2 hj) h4 h3
        omega
    have h1 := hc p.length (Nat.le_refl _)
    have h2 := List.length_filter_le (reaN p i p.length) (List.range p.length)
    rw [List.length_range] at h2
    omega
  obtain ⟨r, hr, hst⟩ := key
  obtain ⟨s, hs⟩ := h
  exact reaN_mono (Nat.le_of_lt hr) (reaN_still hst s j hj hs)
/-- What the bits of a number say of the nodes that are reached. -/
structure Bset (p : List (List Int)) (i r S : Nat) : Prop where
  lt : S < 65536
  sound : ∀ k, k < p.length → S.testBit k = true → Rea p i k
  cover : ∀ k, k < p.length → reaN p i r k = true → S.testBit k = true
theorem Bset.start {p : List (List Int)} {i : Nat} (hi : i < 16) : Bset p i 0 (2 ^ i) :=
  ⟨pow_lt16 hi, fun k _ h => by rw [Nat.testBit_two_pow] at h; simp at h; subst h; exact Rea.refl p i, fun k _ h => by simp [reaN] at h; subst h; simp⟩
theorem Bset.put {p : List (List Int)} {i r S k j : Nat} (h : Bset p i r S) (hj : j < 16) (hk : k < p.length) (hb : S.testBit k = true) (ha : arr p k j = true) : Bset p i r (S ||| 2 ^ j) := by
  refine ⟨Nat.or_lt_two_pow (n := 16) h.lt (pow_lt16 hj), fun m hm hb' => ?_, fun m hm hr => ?_⟩
  · rw [testBit_put] at hb'
    rw [Bool.or_eq_true] at hb'
    rcases hb' with e | e
    · exact h.sound m hm e
    · simp at e; subst e; exact (h.sound k hk hb).step hk ha
  · rw [testBit_put, h.cover m hm hr]; rfl
theorem bit_val (S k : Nat) : S / 2 ^ k % 2 = if S.testBit k then 1 else 0 := by
  rw [Nat.testBit_eq_decide_div_mod_eq]
  by_cases h : S / 2 ^ k % 2 = 1
  · rw [h]; simp
  · have : S / 2 ^ k % 2 = 0 := by omega
    rw [this]; simp
theorem shr_bit (S k : Nat) : ((S : Int) / 2 ^ k).tmod 2 = if S.testBit k then 1 else 0 := by
  have e : ((S : Int) / 2 ^ k) = ((S / 2 ^ k : Nat) : Int) := by rw [Int.natCast_ediv, Int.natCast_pow]; rfl
  rw [e, Int.tmod_eq_emod_of_nonneg (Int.natCast_nonneg _)]
  have := bit_val S k
  have e2 : ((S / 2 ^ k : Nat) : Int) % 2 = ((S / 2 ^ k % 2 : Nat) : Int) := by omega
  rw [e2, this]
  split <;> rfl
/-- The state behind some arrows of a round. -/
def Went (p : List (List Int)) (i r S k j : Nat) : Prop := ∀ a b, a < p.length → b < p.length → (a < k ∨ (a = k ∧ b < j)) → reaN p i r a = true → arr p a b = true → S.testBit b = true
theorem Went.put {p : List (List Int)} {i r S k j u : Nat} (h : Went p i r S k j) : Went p i r (S ||| 2 ^ u) k j := fun a b h1 h2 h3 h4 h5 => by
  rw [testBit_put, h a b h1 h2 h3 h4 h5]; rfl
theorem Went.next {p : List (List Int)} {i r S k j : Nat} (h : Went p i r S k j) (hb : reaN p i r k = true → arr p k j = true → S.testBit j = true) : Went p i r S k (j + 1) := fun a b h1 h2 h3 h4 h5 => by
  by_cases e : a = k ∧ b = j
  · obtain ⟨rfl, rfl⟩ := e; exact hb h4 h5
  · exact h a b h1 h2 (by omega) h4 h5
theorem Went.row {p : List (List Int)} {i r S k : Nat} (h : Went p i r S k p.length) : Went p i r S (k + 1) 0 := fun a b h1 h2 h3 h4 h5 => h a b h1 h2 (by omega) h4 h5
theorem Bset.round {p : List (List Int)} {i r S : Nat} (h : Bset p i r S) (hw : Went p i r S p.length 0) : Bset p i (r + 1) S :=
  ⟨h.lt, h.sound, fun k hk hr => by
    rcases reaN_succ.1 hr with h1 | ⟨a, ha, h1, h2⟩
    · exact h.cover k hk h1
    · exact hw a k ha hk (.inl ha) h1 h2⟩
/-- The nodes whose bits are set. -/
def bitL (S n : Nat) : List Int := ((List.range n).filter S.testBit).map Int.ofNat
theorem bitL_succ (S n : Nat) : bitL S (n + 1) = bitL S n ++ (if S.testBit n then [(n : Int)] else []) := by
  unfold bitL
  rw [List.range_succ, List.filter_append, List.map_append]
  cases h : S.testBit n <;> simp [h]
theorem bitL_mem {S n : Nat} {x : Int} : x ∈ bitL S n ↔ ∃ k : Nat, x = k ∧ k < n ∧ S.testBit k = true := by
  unfold bitL
  rw [List.mem_map]
  constructor
  · rintro ⟨k, hk, rfl⟩
    rw [List.mem_filter, List.mem_range] at hk
    exact ⟨k, rfl, hk⟩
  · rintro ⟨k, rfl, h1, h2⟩
    exact ⟨k, List.mem_filter.2 ⟨List.mem_range.2 h1, h2⟩, rfl⟩
theorem bitL_lt (S n : Nat) : (bitL S n).Pairwise (· < ·) := by
  unfold bitL
  rw [List.pairwise_map]
  exact (List.pairwise_lt_range.filter _).imp (fun h => by show (Int.ofNat _) < (Int.ofNat _); simpa using h)
theorem bitL_le (S n : Nat) : (bitL S n).length ≤ n := by
  unfold bitL
  rw [List.length_map]
  have := List.length_filter_le S.testBit (List.range n)
  rwa [List.length_range] at this
theorem Bset.reach {p : List (List Int)} {i S : Nat} (h : Bset p i p.length S) (hi : i < p.length) : IsReach p i (bitL S p.length) :=
  ⟨bitL_lt _ _, fun x => bitL_mem.trans ⟨fun ⟨k, e, hk, hb⟩ => ⟨k, e, hk, h.sound k hk hb⟩, fun ⟨k, e, hk, hr⟩ => ⟨k, e, hk, h.cover k hk (reaN_full hi hk hr)⟩⟩⟩
end Go.Hyp
namespace Go.Proofs.Ytfjodcfbhpglhaa
open Go.RowKit Go.Hyp Go.Deep

set_option maxRecDepth 4000 in
set_option maxHeartbeats 1000000 in
theorem specReachedFrom_any (a : Option Addr) (cap : Nat) (p : List (List Int)) (n : Int) (w : World) (B C : Nat) (h : RdII w B C a p) (hC : C ≤ w.heap.size) (hl : p.length ≤ maxLen) :
    Calls Try.prog 62 #[.slice a p.length cap, .int .i64 n] w fun e w' => (nodeB p n = false ∧ (∃ a' c', e = .returned (.slice a' 0 c')) ∧ Below w.heap.size w w') ∨ ∃ i : Nat, n = i ∧ i < p.length ∧ picB p = true ∧ RetReach 3 p i w e w' := by
  have HB0 := Lib.hid (below_alloc w (.cells #[] 3))
  have F := Lib.hid (h.below HB0.out hC)
  have HL := Lib.hid hl
  unfold maxLen at hl
  clear h
  cases hp : picB p
  · have HP := Lib.hid hp
    clear hp
    go_enter Try.func62, Try.ntmps62
    go_wp2_with fail
    refine (specPictureOk_any _ _ _ _ B C F.out HL.out).mono ?_
    rintro e w' ⟨rfl, rfl⟩
    rw [HP.out]
    go_wp2_with fail
    go_ret
    exact .inl ⟨by unfold nodeB; rw [HP.out]; rfl, ⟨_, _, rfl⟩, HB0.out⟩
  · have HP := Lib.hid hp
    obtain ⟨sq, s1, s5⟩ := picB_sq hp
    have HS := Lib.hid sq
    clear hp sq
    by_cases hr : 0 ≤ n ∧ n ≤ (p.length : Int) - 1
    · obtain ⟨i, rfl⟩ := Int.eq_ofNat_of_zero_le hr.1
      have hi : i < p.length := by omega
      have HD : Hid ((decide (0 ≤ (i : Int)) && decide ((i : Int) ≤ (p.length : Int) - 1)) = true) := Lib.hid (by simp; omega)
      have HW := Lib.hid (wrap_pow (show i < 16 by omega))
      have HST := Lib.hid (Bset.start (p := p) (show i < 16 by omega))
      clear hr
      go_enter Try.func62, Try.ntmps62
      go_wp2_with fail
      refine (specPictureOk_any _ _ _ _ B C F.out HL.out).mono ?_
      rintro e w' ⟨rfl, rfl⟩
      rw [HP.out]
      go_wp2_with fail
      refine (l1In_any _ _ _ _).mono ?_
      rintro e w' ⟨rfl, rfl⟩
      rw [HD.out]
      go_wp2_with fail
      go_loop [6, 7] (fun s c => ∃ r S : Nat, r ≤ p.length ∧ c = .int .i64 r ∧ s = .int .i64 S ∧ Bset p i r S) (fun _ c => p.length - (intOf c).toNat)
      case atStart => exact ⟨0, 2 ^ i, Nat.zero_le _, rfl, by rw [HW.out], HST.out⟩
      case round =>
        obtain ⟨r, S, hr, rfl, rfl, hS⟩ := hrel
        have HSS := Lib.hid hS
        clear hS
        by_cases hlt : r < p.length
        · go_wp2_with fail
          go_loop [6, 8] (fun s c => ∃ k S : Nat, k ≤ p.length ∧ c = .int .i64 k ∧ s = .int .i64 S ∧ Bset p i r S ∧ Went p i r S k 0) (fun _ c => p.length - (intOf c).toNat)
          case atStart => exact ⟨0, S, Nat.zero_le _, rfl, rfl, HSS.out, fun a b _ _ h => by omega⟩
          case round =>
            obtain ⟨k, S2, hk, rfl, rfl, hS, hW⟩ := hrel
            have HS2 := Lib.hid hS
            have HW2 := Lib.hid hW
            clear hS hW HSS
            by_cases hlt2 : k < p.length
            · go_wp2_with fail
              go_loop [6, 9] (fun s c => ∃ j S : Nat, j ≤ p.length ∧ c = .int .i64 j ∧ s = .int .i64 S ∧ Bset p i r S ∧ Went p i r S k j) (fun _ c => p.length - (intOf c).toNat)
              case atStart => exact ⟨0, S2, Nat.zero_le _, rfl, rfl, HS2.out, HW2.out⟩
              case round =>
                obtain ⟨j, S3, hj, rfl, rfl, hS, hW⟩ := hrel
                have HS3 := Lib.hid hS
                have HW3 := Lib.hid hW
                clear hS hW HS2 HW2
                by_cases hlt3 : j < p.length
                · obtain ⟨b, off, b', off', c', rfl, _, hbC, hc, _, hbC', hd⟩ := F.out.bit HS.out k j hlt2 hlt3
                  have hsh := shr_bit S3 k
                  cases hbit : S3.testBit k
                  · rw [hbit] at hsh
                    have HN : Hid (Went p i r S3 k (j + 1)) := Lib.hid (HW3.out.next (fun h _ => by rw [HS3.out.cover k hlt2 h] at hbit; cases hbit))
                    simp only [Bool.false_eq_true, if_false] at hsh
                    clear hbit hd
                    go_wp2_with fail
                    go_round
                    case rel => exact ⟨j + 1, S3, by omega, by go_num, rfl, HS3.out, HN.out⟩
                    case measure => simp [intOf]; omega
                  · rw [hbit] at hsh
                    simp only [if_true] at hsh
                    cases hx : arr p k j
                    · rw [hx] at hd
                      have HN : Hid (Went p i r S3 k (j + 1)) := Lib.hid (HW3.out.next (fun _ h => by rw [hx] at h; cases h))
                      simp only [Bool.false_eq_true, if_false] at hd
                      clear hbit hx
                      go_wp2_with fail
                      go_round
                      case rel => exact ⟨j + 1, S3, by omega, by go_num, rfl, HS3.out, HN.out⟩
                      case measure => simp [intOf]; omega
                    · rw [hx] at hd
                      have HN : Hid (Went p i r (S3 ||| 2 ^ j) k (j + 1)) := Lib.hid (HW3.out.put.next (fun _ _ => by rw [testBit_put]; simp))
                      have HP3 := Lib.hid (HS3.out.put (show j < 16 by omega) hlt2 hbit hx)
                      have HOB := Lib.hid (or_bit HS3.out.lt (show j < 16 by omega))
                      simp only [if_true] at hd
                      clear hbit hx
                      go_wp2_with fail
                      go_round
                      case rel => exact ⟨j + 1, S3 ||| 2 ^ j, by omega, by go_num, by rw [HOB.out], HP3.out, HN.out⟩
                      case measure => simp [intOf]; omega
                · obtain rfl : j = p.length := by omega
                  have HN := Lib.hid HW3.out.row
                  go_wp2_with fail
                  go_round
                  case rel => exact ⟨k + 1, S3, by omega, by go_num, rfl, HS3.out, HN.out⟩
                  case measure => simp [intOf]; omega
            · obtain rfl : k = p.length := by omega
              have HN := Lib.hid (HS2.out.round HW2.out)
              go_wp2_with fail
              go_round
              case rel => exact ⟨r + 1, S2, by omega, by go_num, rfl, HN.out⟩
              case measure => simp [intOf]; omega
        · obtain rfl : r = p.length := by omega
          have HRE := Lib.hid (HSS.out.reach hi)
          have HO0 := Lib.hid ((OwI_empty w 3).mono (Nat.le_refl _) (show w.heap.size + 1 ≤ (w.alloc (.cells #[] 3)).heap.size by simp))
          have h00 : bitL S 0 = [] := rfl
          have H00 := Lib.hid h00
          clear h00
          go_wp2_with fail
          go_loopw [5, 10] (fun o c wr => ∃ (k : Nat) (x : Option Addr) (cc : Nat), k ≤ p.length ∧ c = .int .i64 k ∧ o = .slice x (bitL S k).length cc ∧ OwI wr 3 w.heap.size wr.heap.size x cc (bitL S k) ∧ Below w.heap.size w wr) (fun _ c _ => p.length - (intOf c).toNat)
          case atStart => exact ⟨0, _, 0, Nat.zero_le _, rfl, rfl, HO0.out, HB0.out⟩
          case round =>
            obtain ⟨k, x, cc, hk, rfl, rfl, ho, hb⟩ := hrel
            have HO := Lib.hid ho
            have HB := Lib.hid hb
            have hkl := bitL_le S k
            clear ho hb
            by_cases hlt2 : k < p.length
            · have hsh := shr_bit S k
              cases hbit : S.testBit k
              · rw [hbit] at hsh
                simp only [Bool.false_eq_true, if_false] at hsh
                have HL2 : Hid (bitL S (k + 1) = bitL S k) := Lib.hid (by rw [bitL_succ, hbit]; simp)
                clear hbit
                go_wp2_with fail
                go_roundw
                case rel => exact ⟨k + 1, x, cc, by omega, by go_num, by rw [HL2.out], by rw [HL2.out]; exact HO.out, HB.out⟩
                case measure => simp [intOf]; omega
              · rw [hbit] at hsh
                simp only [if_true] at hsh
                have HL2 : Hid (bitL S (k + 1) = bitL S k ++ [(k : Int)]) := Lib.hid (by rw [bitL_succ, hbit]; simp)
                clear hbit
                go_wp2_with (at_builtin; go_loud (refine wpList_appI Try.underlying24 Try.infoInt _ rfl _ _ rfl w.heap.size wr.heap.size x cc (bitL S k) rfl (HO.out.agr ((Agr.refl _ _ _).alloc (Nat.le_refl _) _)) (by have := HB.out.size; simp; omega) ⟨wr.heap.size, 0, none⟩ k rfl (new_cellE _ _ _ rfl) (by omega) ?_); intro g c1 w1 hown hgrow hat hg)
                have HO1 := Lib.hid hown
                have HB1 := Lib.hid (below_app HB.out hgrow (HO.out.app_in (Nat.le_refl _)) (Nat.le_refl _) (Nat.le_refl _))
                clear hown hgrow hat
                go_wp2_with fail
                go_roundw
                case rel => exact ⟨k + 1, some ⟨g, 0, none⟩, c1, by omega, by go_num, by rw [HL2.out]; simp, by rw [HL2.out]; exact HO1.out, HB1.out⟩
                case measure => simp [intOf]; omega
            · obtain rfl : k = p.length := by omega
              go_wp2_with fail
              go_ret
              refine .inr ⟨i, rfl, hi, by first | trivial | exact HP.out, bitL S p.length, x, cc, rfl, HRE.out, hkl, HO.out, HB.out⟩
    · have HD : Hid ((decide (0 ≤ n) && decide (n ≤ (p.length : Int) - 1)) = false) := Lib.hid (by
        cases h : (decide (0 ≤ n) && decide (n ≤ (p.length : Int) - 1))
        · rfl
        · exact absurd (by simpa using h) hr)
      have HNO : Hid (nodeB p n = false) := Lib.hid (by
        cases h : nodeB p n
        · rfl
        · obtain ⟨i, rfl, hi, _⟩ := nodeB_nat h
          exact absurd ⟨by omega, by omega⟩ hr)
      clear hr
      go_enter Try.func62, Try.ntmps62
      go_wp2_with fail
      refine (specPictureOk_any _ _ _ _ B C F.out HL.out).mono ?_
      rintro e w' ⟨rfl, rfl⟩
      rw [HP.out]
      go_wp2_with fail
      refine (l1In_any _ _ _ _).mono ?_
      rintro e w' ⟨rfl, rfl⟩
      rw [HD.out]
      go_wp2_with fail
      go_ret
      exact .inl ⟨by first | trivial | exact HNO.out, ⟨_, _, rfl⟩, HB0.out⟩
end Go.Proofs.Ytfjodcfbhpglhaa
namespace Go.Hyp
open Go.RowKit Go.Deep
/-- A list of nodes as numbers. -/
def natL (l : List Nat) : List Int := l.map Int.ofNat
theorem natL_len (l : List Nat) : (natL l).length = l.length := by simp [natL]
theorem natL_get {l : List Nat} {k : Nat} (h : k < (natL l).length) : (natL l)[k] = ((l.getD k 0 : Nat) : Int) := by
  have h' : k < l.length := by rwa [natL_len] at h
  rw [getD_nat h']
  simp [natL]
theorem natL_snoc (l : List Nat) (v : Nat) : natL (l ++ [v]) = natL l ++ [(v : Int)] := by simp [natL]
theorem natL_of {L : List Int} (h : ∀ x ∈ L, ∃ v : Nat, x = v) : natL (L.map Int.toNat) = L := by
  unfold natL
  rw [List.map_map]
  have : ∀ x ∈ L, (Int.ofNat ∘ Int.toNat) x = x := fun x hx => by
    obtain ⟨v, rfl⟩ := h x hx
    simp
  exact (List.map_congr_left this).trans (List.map_id L)
/-- Some of the first j nodes is a member of u, and of v's kind. -/
def arrKn (p : List (List Int)) (u v j : Nat) : Bool := (List.range j).any fun x => arr p u x && (kind p x == kind p v)
theorem arrKn_all (p : List (List Int)) (u v : Nat) : arrKn p u v p.length = arrK p u v := rfl
theorem arrKn_zero (p : List (List Int)) (u v : Nat) : arrKn p u v 0 = false := rfl
theorem arrKn_succ (p : List (List Int)) (u v j : Nat) : arrKn p u v (j + 1) = (arrKn p u v j || (arr p u j && (kind p j == kind p v))) := by
  unfold arrKn; rw [List.range_succ, List.any_append]; simp
/-- The row of u, behind j nodes and m places of the next. -/
def partF (p : List (List Int)) (l : List Nat) (u j m : Nat) (x : Nat) : Bool := arrKn p u (l.getD x 0) (if x < m then j + 1 else j)
theorem partF_put {p : List (List Int)} {l : List Nat} {u j m : Nat} (h : (arr p u j && (kind p j == kind p (l.getD m 0))) = true) (n : Nat) (hm : m < n) : (rowOf n (partF p l u j m)).set m 1 = rowOf n (partF p l u j (m + 1)) := by
  apply List.ext_getElem
  · rw [List.length_set, rowOf_len, rowOf_len]
  · intro x h1 h2
    rw [List.length_set, rowOf_len] at h1
    rw [List.getElem_set, rowOf_get, rowOf_get]
    by_cases e : m = x
    · subst e
      have : partF p l u j (m + 1) m = true := by
        unfold partF
        rw [if_pos (by omega), arrKn_succ, h]; simp
      rw [if_pos rfl, this]; rfl
    · rw [if_neg e]
      have : partF p l u j m x = partF p l u j (m + 1) x := by
        unfold partF
        by_cases e2 : x < m
        · rw [if_pos e2, if_pos (by omega)]
        · rw [if_neg e2, if_neg (by omega)]
      rw [this]
theorem partF_stay {p : List (List Int)} {l : List Nat} {u j m : Nat} (h : (arr p u j && (kind p j == kind p (l.getD m 0))) = false) (n : Nat) : rowOf n (partF p l u j m) = rowOf n (partF p l u j (m + 1)) := by
  refine rowOf_congr fun x _ => ?_
  unfold partF
  by_cases e : x = m
  · subst e
    rw [if_neg (by omega), if_pos (by omega), arrKn_succ, h]; simp
  · by_cases e2 : x < m
    · rw [if_pos e2, if_pos (by omega)]
    · rw [if_neg e2, if_neg (by omega)]
theorem partF_next (p : List (List Int)) (l : List Nat) (u j : Nat) (n : Nat) : rowOf n (partF p l u j n) = rowOf n (partF p l u (j + 1) 0) := by
  refine rowOf_congr fun x hx => ?_
  unfold partF
  rw [if_pos hx, if_neg (by omega)]
theorem partF_start (p : List (List Int)) (l : List Nat) (u n : Nat) : rowOf n (partF p l u 0 0) = rowOf n fun _ => false := by
  refine rowOf_congr fun x _ => ?_
  unfold partF
  rw [if_neg (by omega), arrKn_zero]
theorem partF_end (p : List (List Int)) (l : List Nat) (k : Nat) : rowOf l.length (partF p l (l.getD k 0) p.length 0) = rowOf l.length fun b => arrK p (l.getD k 0) (l.getD b 0) := by
  refine rowOf_congr fun x _ => ?_
  unfold partF
  rw [if_neg (by omega), arrKn_all]
/-- The nodes that are reached, by counting. -/
def reachL (p : List (List Int)) (i : Nat) : List Nat := (List.range p.length).filter (reaN p i p.length)
theorem reachL_mem {p : List (List Int)} {i v : Nat} (hi : i < p.length) : v ∈ reachL p i ↔ v < p.length ∧ Rea p i v := by
  unfold reachL
  rw [List.mem_filter, List.mem_range]
  exact ⟨fun h => ⟨h.1, _, h.2⟩, fun h => ⟨h.1, reaN_full hi h.1 h.2⟩⟩
theorem reachL_is {p : List (List Int)} {i : Nat} (hi : i < p.length) : IsReach p i (natL (reachL p i)) := by
  refine ⟨?_, fun x => ?_⟩
  · unfold natL reachL
    rw [List.pairwise_map]
    exact (List.pairwise_lt_range.filter _).imp (fun h => by show (Int.ofNat _) < (Int.ofNat _); simpa using h)
  · unfold natL
    rw [List.mem_map]
    constructor
    · rintro ⟨v, hv, rfl⟩
      obtain ⟨h1, h2⟩ := (reachL_mem hi).1 hv
      exact ⟨v, rfl, h1, h2⟩
    · rintro ⟨v, rfl, h1, h2⟩
      exact ⟨v, (reachL_mem hi).2 ⟨h1, h2⟩, rfl⟩
theorem IsReach.pos2 {p : List (List Int)} {i : Nat} {L : List Int} (h : IsReach p i L) (hi : i < p.length) : 0 < L.length := by
  have := (h.2 (i : Int)).2 ⟨i, rfl, hi, Rea.refl p i⟩
  cases L with
  | nil => simp at this
  | cons _ _ => simp
/-- One node of each kind that is reached. -/
def joinedL (p : List (List Int)) (i : Nat) : List Nat := jfold p i (reachL p i)
theorem joinedL_fit {p : List (List Int)} {i : Nat} (hi : i < p.length) : Fit p i (joinedL p i) := jfold_fit hi fun _ => reachL_mem hi
/-- What JoinedOf answers. -/
def joinedR (p : List (List Int)) (n : Int) : List (List Int) := if nodeB p n = true then joinM p (joinedL p n.toNat) else []
theorem joinedR_no {p : List (List Int)} {n : Int} (h : nodeB p n = false) : joinedR p n = [] := by unfold joinedR; rw [h]; rfl
theorem joinedR_yes {p : List (List Int)} {i : Nat} (h : nodeB p i = true) : joinedR p i = joinM p (joinedL p i) := by unfold joinedR; rw [h]; rfl
theorem joinedOf_small (p : List (List Int)) (n : Int) : (joinedR p n).length ≤ 1048576 ∧ lens (joinedR p n) ≤ 1048576 := by
  cases h : nodeB p n
  · rw [joinedR_no h]; exact ⟨by simp, by show 0 ≤ _; omega⟩
  · obtain ⟨i, rfl, hi, hp⟩ := nodeB_nat h
    rw [joinedR_yes h]
    have := (joinedL_fit hi).len
    have := (picB_sq hp).2.2
    exact mat_small _ (by omega)
/-- The walk of the list: no earlier node is of v's kind. -/
def frshB (p : List (List Int)) (l : List Nat) (v j : Nat) : Bool := (l.take j).all fun u => !(kind p u == kind p v)
theorem frshB_succ {p : List (List Int)} {l : List Nat} {v j : Nat} (h : j < l.length) : frshB p l v (j + 1) = (frshB p l v j && !(kind p (l.getD j 0) == kind p v)) := by
  unfold frshB
  rw [List.take_succ_eq_append_getElem h, List.all_append, getD_nat h]
  simp
theorem jstep_fresh {p : List (List Int)} {l : List Nat} {v : Nat} : jstep p l v = if frshB p l v l.length = true then l ++ [v] else l := by
  unfold jstep frshB
  rw [List.take_of_length_le (Nat.le_refl _)]
  have e : (l.all fun u => !(kind p u == kind p v)) = !(l.any fun u => kind p u == kind p v) := by rw [List.not_any_eq_all_not]
  rw [e]
  cases l.any fun u => kind p u == kind p v <;> rfl
end Go.Hyp
namespace Go.Proofs.Ytfjodcfbhpglhaa
open Go.RowKit Go.Hyp Go.Deep

set_option maxRecDepth 4000 in
set_option maxHeartbeats 1600000 in
theorem l4Part_any (a : Option Addr) (cap : Nat) (p : List (List Int)) (ak : Option Addr) (ck : Nat) (al : Option Addr) (cl : Nat) (l : List Nat) (w : World) (B C B1 C1 B2 C2 : Nat) (h : RdII w B C a p) (hC : C ≤ w.heap.size) (hs : Sq p) (h5 : p.length ≤ 16)
    (hk : RdI w B1 C1 ak (kindsL p p.length)) (hC1 : C1 ≤ w.heap.size) (hL : RdI w B2 C2 al (natL l)) (hC2 : C2 ≤ w.heap.size) (hl : ∀ k, k < l.length → l.getD k 0 < p.length) (hln : l.length ≤ p.length) :
    Calls Try.prog 64 #[.slice a p.length cap, .slice ak p.length ck, .slice al l.length cl] w (RetII 3 24 (joinM p l) w) := by
  have HB0 := Lib.hid (below_alloc w (.cells #[] 24))
  have HO0 := Lib.hid (OwII_empty w 3 24)
  have F := Lib.hid h
  have FK := Lib.hid hk
  have FL := Lib.hid hL
  have HS := Lib.hid hs
  have HLN := Lib.hid hl
  clear h hk hL hs hl
  have HE : Hid (∀ k, k < l.length → (joinM p l).take (k + 1) = (joinM p l).take k ++ [rowOf l.length (partF p l (l.getD k 0) p.length 0)]) := Lib.hid (fun k hk => by
    rw [partF_end]
    exact mat_take _ _ _ _ hk)
  have hmk := run_make_row' (P := Try.prog) 24 3 _ _ Try.underlying24 Try.infoInt rfl .i64 .i64 l.length (by omega) (by omega)
  go_enter Try.func64, Try.ntmps64
  go_wp2_with fail
  go_loopw [7, 8] (fun o i wr => ∃ (x : Option Addr) (c : Nat) (P : List (List Int)), P.length ≤ l.length ∧ i = .int .i64 P.length ∧ o = .slice x P.length c ∧ (joinM p l).take P.length = P ∧ OwII wr 3 24 w.heap.size wr.heap.size x c P ∧ Below w.heap.size w wr) (fun _ i _ => l.length - (intOf i).toNat)
  case atStart => exact ⟨_, 0, [], Nat.zero_le _, rfl, rfl, rfl, HO0.out.mono (Nat.le_refl _) (by simp), HB0.out⟩
  case round =>
    obtain ⟨x, c, P, hPl, rfl, rfl, hP, ho, hb⟩ := hrel
    have HP := Lib.hid hP
    have HO := Lib.hid ho
    have HB := Lib.hid hb
    have hzr : w.heap.size ≤ wr.heap.size := hb.size
    clear hP ho hb HB0 HO0
    by_cases hlt : P.length < l.length
    · obtain ⟨U, hU⟩ : ∃ U, U = l.getD P.length 0 := ⟨_, rfl⟩
      have hUp : U < p.length := by rw [hU]; exact HLN.out _ hlt
      have HU := Lib.hid hU
      have hUi : (U : Int) < (p.length : Int) := by omega
      clear hU
      have HL0 := Lib.hid (OwI_zeros wr 3 l.length (by unfold maxLen; omega))
      have HBA := Lib.hid (HB.out.alloc hzr (.cells (madeCells #[.int .i64 0] l.length) 3))
      have HPA := Lib.hid (HO.out.below (below_alloc wr (.cells (madeCells #[.int .i64 0] l.length) 3)) (Nat.le_refl _))
      have HST := Lib.hid (partF_start p l U l.length)
      obtain ⟨wk, rfl⟩ : ∃ wk : World, wk = wr := ⟨_, rfl⟩
      clear HO HB
      go_wp2_with fail
      go_loopw [10] (fun i wi => ∃ (j : Nat) (L : List Int), j ≤ p.length ∧ i = .int .i64 j ∧ L = rowOf l.length (partF p l U j 0) ∧ OwI wi 3 wk.heap.size (wk.heap.size + 1) (some ⟨wk.heap.size, 0, none⟩) l.length L ∧ OwII wi 3 24 w.heap.size wk.heap.size x c P ∧ Below w.heap.size w wi ∧ wk.heap.size + 1 ≤ wi.heap.size) (fun i _ => p.length - (intOf i).toNat)
      case atStart => exact ⟨0, _, Nat.zero_le _, rfl, HST.out.symm, HL0.out, HPA.out, HBA.out, by simp⟩
      case round =>
        obtain ⟨j, L, hj, rfl, hLr, hli, hpi, hbi, hzi⟩ := hrel
        have HLR := Lib.hid hLr
        have HLI := Lib.hid hli
        have HPI := Lib.hid hpi
        have HBI := Lib.hid hbi
        clear hLr hli hpi hbi HL0 HPA HBA
        by_cases hlt2 : j < p.length
        · have hji : (j : Int) < (p.length : Int) := by omega
          go_wp2_with fail
          go_loopw [11] (fun i wi => ∃ (m : Nat) (L : List Int), m ≤ l.length ∧ i = .int .i64 m ∧ L = rowOf l.length (partF p l U j m) ∧ OwI wi 3 wk.heap.size (wk.heap.size + 1) (some ⟨wk.heap.size, 0, none⟩) l.length L ∧ OwII wi 3 24 w.heap.size wk.heap.size x c P ∧ Below w.heap.size w wi ∧ wk.heap.size + 1 ≤ wi.heap.size) (fun i _ => l.length - (intOf i).toNat)
          case atStart => exact ⟨0, L, Nat.zero_le _, rfl, HLR.out, HLI.out, HPI.out, HBI.out, hzi⟩
          case round =>
            obtain ⟨m, L2, hm, rfl, hLr, hli, hpi, hbi, hzi⟩ := hrel
            have HLR2 := Lib.hid hLr
            have HLI2 := Lib.hid hli
            have HPI2 := Lib.hid hpi
            have HBI2 := Lib.hid hbi
            clear hLr hli hpi hbi HLR HLI HPI HBI
            by_cases hlt3 : m < l.length
            · obtain ⟨V, hV⟩ : ∃ V, V = l.getD m 0 := ⟨_, rfl⟩
              have hVp : V < p.length := by rw [hV]; exact HLN.out _ hlt3
              have hVi : (V : Int) < (p.length : Int) := by omega
              obtain ⟨b1, o1, rfl, _, hb1, hd1⟩ := (FL.out.below HBI2.out hC2).at P.length (by rw [natL_len]; exact hlt)
              rw [natL_get, ← HU.out] at hd1
              obtain ⟨b2, o2, e2, _, hb2, hd2⟩ := (FL.out.below HBI2.out hC2).at m (by rw [natL_len]; exact hlt3)
              cases e2
              rw [natL_get, ← hV] at hd2
              obtain ⟨b3, o3, rfl, _, hb3, hd3⟩ := (FK.out.below HBI2.out hC1).at j (by rw [kindsL_len]; exact hlt2)
              rw [kindsL_get] at hd3
              obtain ⟨b4, o4, e4, _, hb4, hd4⟩ := (FK.out.below HBI2.out hC1).at V (by rw [kindsL_len]; exact hVp)
              cases e4
              rw [kindsL_get] at hd4
              obtain ⟨b5, o5, b5', o5', c5', rfl, _, hb5, hc5, _, hb5', hd5⟩ := (F.out.below HBI2.out hC).bit HS.out U j hUp hlt2
              have hki : (P.length : Int) < (l.length : Int) := by omega
              have hmi : (m : Int) < (l.length : Int) := by omega
              have HV := Lib.hid hV
              clear hV
              cases hx : arr p U j
              · rw [hx] at hd5
                simp only [Bool.false_eq_true, if_false] at hd5
                have HN : Hid (rowOf l.length (partF p l U j m) = rowOf l.length (partF p l U j (m + 1))) := Lib.hid (partF_stay (by rw [hx]; rfl) _)
                clear hx
                go_wp2_with fail
                go_quiet (fail)
                go_wp2_with fail
                go_roundw
                case rel => exact ⟨m + 1, L2, by omega, by go_num, HLR2.out.trans HN.out, by exact HLI2.out, by exact HPI2.out, below_drewN HBI2.out _, by simpa using hzi⟩
                case measure => simp [intOf]; omega
              · rw [hx] at hd5
                simp only [if_true] at hd5
                by_cases hkk : kind p j = kind p V
                · have HN : Hid ((rowOf l.length (partF p l U j m)).set m 1 = rowOf l.length (partF p l U j (m + 1))) := Lib.hid (partF_put (by rw [hx, ← HV.out, hkk]; simp) _ hlt3)
                  obtain ⟨gx, hgx, _, _, hd6, hfz6, hgl6⟩ := HLI2.out.cells m (by rw [HLR2.out, rowOf_len]; exact hlt3)
                  cases hgx
                  rw [hkk] at hd3
                  obtain ⟨K, hK⟩ : ∃ K, K = kind p V := ⟨_, rfl⟩
                  rw [← hK] at hd3 hd4
                  clear hx hkk hK
                  go_wp2_with fail
                  go_quiet (fail)
                  go_wp2_with fail
                  go_roundw
                  case rel => exact ⟨m + 1, L2.set m 1, by omega, by go_num, by rw [HLR2.out]; exact HN.out, HLI2.out.setAt m (by rw [HLR2.out, rowOf_len]; exact hlt3) 1, HPI2.out.agr ((Agr.refl _ _ _).set (by omega) _), by exact below_drewN (HBI2.out.setCell (p := ⟨wk.heap.size, m, none⟩) hzr _) _, by simp; omega⟩
                  case measure => simp [intOf]; omega
                · have HN : Hid (rowOf l.length (partF p l U j m) = rowOf l.length (partF p l U j (m + 1))) := Lib.hid (partF_stay (by rw [hx, ← HV.out]; simp [hkk]) _)
                  obtain ⟨K, hK⟩ : ∃ K, K = kind p V := ⟨_, rfl⟩
                  obtain ⟨J, hJ⟩ : ∃ J, J = kind p j := ⟨_, rfl⟩
                  rw [← hK] at hd4 hkk
                  rw [← hJ] at hd3 hkk
                  have hne : ((J : Int) == (K : Int)) = false := beq_eq_false_iff_ne.2 (by omega)
                  clear hx hkk hK hJ
                  go_wp2_with fail
                  go_quiet (fail)
                  go_wp2_with fail
                  go_roundw
                  case rel => exact ⟨m + 1, L2, by omega, by go_num, HLR2.out.trans HN.out, by exact HLI2.out, by exact HPI2.out, below_drewN HBI2.out _, by simpa using hzi⟩
                  case measure => simp [intOf]; omega
            · obtain rfl : m = l.length := by omega
              have HN := Lib.hid (partF_next p l U j l.length)
              go_wp2_with fail
              go_roundw
              case rel => exact ⟨j + 1, L2, by omega, by go_num, HLR2.out.trans HN.out, HLI2.out, HPI2.out, HBI2.out, hzi⟩
              case measure => simp [intOf]; omega
        · obtain rfl : j = p.length := by omega
          have hLl : L.length = l.length := by rw [HLR.out, rowOf_len]
          have HLL := Lib.hid hLl
          have HTK : Hid ((joinM p l).take (P.length + 1) = P ++ [L]) := Lib.hid (by rw [HE.out _ hlt, HP.out, ← HU.out, ← HLR.out])
          obtain ⟨wq, rfl⟩ : ∃ wq : World, wq = wr := ⟨_, rfl⟩
          clear hLl
          go_wp2_with (at_builtin; go_loud (refine wpList_appII Try.underlying38 Try.infoRow _ rfl _ _ rfl w.heap.size wk.heap.size x c P rfl (HPI.out.agr ((Agr.refl _ _ _).alloc (by omega) _)) (by simp; omega) (by simp; omega) ⟨wq.heap.size, 0, none⟩ (some ⟨wk.heap.size, 0, none⟩) l.length L rfl (by rw [HLL.out]; exact new_cellE _ _ _ rfl) wk.heap.size (wk.heap.size + 1) (HLI.out.agr ((Agr.refl _ _ _).alloc (by omega) _)) (Nat.le_refl _) (by omega) (by simp; omega) (by omega) ?_); intro a1 c1 w6 hown hgrow hat)
          have HO6 := Lib.hid hown
          have HB6 := Lib.hid (below_app HBI.out hgrow (HPI.out.app_in (Nat.le_refl _)) (Nat.le_refl _) (Nat.le_refl _))
          clear hown hgrow hat
          go_wp2_with fail
          go_roundw
          case rel =>
            have e1 : (P ++ [L]).length = P.length + 1 := by simp
            have e4 : Value.int .i64 ((P.length : Int) + 1) = .int .i64 ((P ++ [L]).length : Int) := int_eq (by rw [e1]; omega)
            have e5 : Value.slice a1 (P.length + 1) c1 = .slice a1 (P ++ [L]).length c1 := by rw [e1]
            have e6 : (joinM p l).take (P ++ [L]).length = P ++ [L] := by rw [e1]; exact HTK.out
            first
              | exact ⟨a1, c1, P ++ [L], by omega, e4, e5, e6, HO6.out, HB6.out⟩
              | ((repeat apply Exists.intro); exact ⟨⟨a1, c1, P ++ [L], by omega, e4, e5, e6, HO6.out, HB6.out⟩, rfl⟩)
          case measure => simp [intOf]; omega
    · have hPe : P.length = l.length := by omega
      have HPE : Hid (P = joinM p l) := Lib.hid (by
        have := HP.out
        rw [List.take_of_length_le (by rw [joinM_len]; omega)] at this
        exact this.symm)
      clear hPe
      go_wp2_with fail
      go_ret
      exact retII_of HPE.out HO.out HB.out

set_option maxRecDepth 4000 in
set_option maxHeartbeats 1600000 in
theorem specJoinedOf_any (a : Option Addr) (cap : Nat) (p : List (List Int)) (n : Int) (w : World) (B C : Nat) (h : RdII w B C a p) (hC : C ≤ w.heap.size) (hl : p.length ≤ maxLen) :
    Calls Try.prog 54 #[.slice a p.length cap, .int .i64 n] w (RetII 3 24 (joinedR p n) w) := by
  have F := Lib.hid h
  have HL := Lib.hid hl
  clear h
  have hre := specReachedFrom_any a cap p n w B C F.out hC hl
  have HRE := Lib.hid hre
  clear hre
  cases hn : nodeB p n
  · have HNO := Lib.hid hn
    have HJ := Lib.hid (joinedR_no hn)
    clear hn
    go_enter Try.func54, Try.ntmps54
    go_wp2_with fail
    refine HRE.out.mono ?_
    rintro e w1 (⟨_, ⟨a', c', rfl⟩, hb⟩ | ⟨i, rfl, hi, hp, _⟩)
    · have HB := Lib.hid hb
      have hz1 : w.heap.size ≤ w1.heap.size := hb.size
      clear hb
      go_wp2_with fail
      refine (specKindsOf_any a cap p w1 B C (F.out.below HB.out hC) (by omega) HL.out).mono ?_
      rintro e w2 ⟨x, c, rfl, _, hb⟩
      have HB2 := Lib.hid (HB.out.trans (hb.mono hz1))
      have hz2 : w.heap.size ≤ w2.heap.size := HB2.out.size
      clear hb
      go_wp2_with fail
      go_ret
      exact retII_of (p := []) HJ.out.symm ((OwII_empty w2 3 24).mono hz2 (by simp)) (HB2.out.alloc hz2 _)
    · have := nodeB_of hp hi
      rw [HNO.out] at this; cases this
  · obtain ⟨i, rfl, hi, hp⟩ := nodeB_nat hn
    obtain ⟨sq, s1, s5⟩ := picB_sq hp
    have HYES := Lib.hid hn
    have HJ := Lib.hid (joinedR_yes hn)
    have HS := Lib.hid sq
    have HP := Lib.hid hp
    have HKS := Lib.hid (kindsS_yes hp)
    clear hn sq hp
    go_enter Try.func54, Try.ntmps54
    go_wp2_with fail
    refine HRE.out.mono ?_
    rintro e w1 (⟨hno, _, _⟩ | ⟨i', e0, hi', _, L, ar, cr, rfl, hre, hll, ho, hb⟩)
    · rw [HYES.out] at hno; cases hno
    · have e0 : i = i' := by omega
      subst e0
      have hLL : L = natL (reachL p i) := hre.unique (reachL_is hi)
      subst hLL
      obtain ⟨R, hR⟩ : ∃ R, R = reachL p i := ⟨_, rfl⟩
      rw [← hR] at hre hll ho ⊢
      have hpos := hre.pos2 hi
      rw [natL_len] at hll hpos
      have HR := Lib.hid ho.rd
      have HB := Lib.hid hb
      have hz1 : w.heap.size ≤ w1.heap.size := hb.size
      have HRM : Hid (∀ k, k < R.length → R.getD k 0 < p.length) := Lib.hid (fun k hk => by
        have : R.getD k 0 ∈ reachL p i := by rw [← hR, getD_nat hk]; exact List.getElem_mem hk
        exact ((reachL_mem hi).1 this).1)
      have HRR := Lib.hid hR
      clear hre ho hb hR HRE
      rw [natL_len]
      go_wp2_with fail
      refine (specKindsOf_any a cap p w1 B C (F.out.below HB.out hC) (by omega) HL.out).mono ?_
      rintro e w2 ⟨ak, ck, rfl, hok, hb2⟩
      rw [HKS.out] at hok ⊢
      rw [kindsL_len]
      have HK := Lib.hid hok.rd
      have HR2 := Lib.hid (HR.out.below hb2 (Nat.le_refl _))
      have HB2 := Lib.hid (HB.out.trans (hb2.mono hz1))
      have hz2 : w1.heap.size ≤ w2.heap.size := hb2.size
      have HO0 := Lib.hid (OwI_one w2 3 i)
      have HBA := Lib.hid (below_alloc w2 (.cells #[.int .i64 i] 3))
      have hne : ((R.length : Int) == 0) = false := beq_eq_false_iff_ne.2 (by omega)
      clear hok hb2 HR HB
      go_wp2_with fail
      clear hne
      go_loopw [7, 8] (fun o c wr => ∃ (k : Nat) (l : List Nat) (x : Option Addr) (cc : Nat), k ≤ R.length ∧ c = .int .i64 k ∧ l = jfold p i (R.take k) ∧ l.length ≤ k + 1 ∧ (∀ j, j < l.length → l.getD j 0 < p.length) ∧ o = .slice x l.length cc ∧ OwI wr 3 w2.heap.size wr.heap.size x cc (natL l) ∧ Below w2.heap.size w2 wr) (fun _ c _ => R.length - (intOf c).toNat)
      case atStart => exact ⟨0, [i], _, 1, Nat.zero_le _, rfl, rfl, by simp, fun j hj => by
        have : j = 0 := by simp at hj; omega
        subst this; exact hi, rfl, HO0.out.mono (Nat.le_refl _) (by simp), HBA.out⟩
      case round =>
        obtain ⟨k, l, x, cc, hk, rfl, hl, hll2, hln, rfl, ho, hb⟩ := hrel
        have HLJ := Lib.hid hl
        have HLN := Lib.hid hln
        have HO := Lib.hid ho
        have HBR := Lib.hid hb
        have hzr : w2.heap.size ≤ wr.heap.size := hb.size
        clear hl hln ho hb HO0 HBA
        by_cases hlt : k < R.length
        · obtain ⟨V, hV⟩ : ∃ V, V = R.getD k 0 := ⟨_, rfl⟩
          have hVp : V < p.length := by rw [hV]; exact HRM.out k hlt
          have HJS : Hid (jfold p i (R.take (k + 1)) = jstep p l V) := Lib.hid (by
            rw [List.take_succ_eq_append_getElem hlt, jfold_snoc, ← HLJ.out, hV, getD_nat hlt])
          have HV := Lib.hid hV
          have hVi : (V : Int) < (p.length : Int) := by omega
          have hki : (k : Int) < (R.length : Int) := by omega
          have h00 : frshB p l V 0 = true := rfl
          have H00 := Lib.hid h00
          obtain ⟨wk, rfl⟩ : ∃ wk : World, wk = wr := ⟨_, rfl⟩
          clear hV h00
          go_wp2_with fail
          go_loopw [9, 10] (fun f c wi => ∃ (j : Nat) (b : Bool), j ≤ l.length ∧ c = .int .i64 j ∧ f = .bool b ∧ frshB p l V j = b ∧ Qt wk wi) (fun _ c _ => l.length - (intOf c).toNat)
          case atStart => exact ⟨0, true, Nat.zero_le _, rfl, rfl, H00.out, Qt.refl _⟩
          case round =>
            obtain ⟨j, fb, hj, rfl, rfl, hfb, hq⟩ := hrel
            have HQ := Lib.hid hq
            have HFB := Lib.hid hfb
            have HBI := Lib.hid (HBR.out.trans hq.below)
            have HOI := Lib.hid (HO.out.agr hq.agr)
            clear hq hfb
            by_cases hlt2 : j < l.length
            · obtain ⟨U, hU⟩ : ∃ U, U = l.getD j 0 := ⟨_, rfl⟩
              have hUp : U < p.length := by rw [hU]; exact HLN.out j hlt2
              have hUi : (U : Int) < (p.length : Int) := by omega
              have hji : (j : Int) < (l.length : Int) := by omega
              have HFS := Lib.hid (frshB_succ (p := p) (v := V) hlt2)
              rw [← hU] at HFS
              obtain ⟨b1, o1, rfl, _, hb1, hd1⟩ := HOI.out.rd.at j (by rw [natL_len]; exact hlt2)
              rw [natL_get, ← hU] at hd1
              obtain ⟨b2, o2, rfl, _, hb2, hd2⟩ := (HR2.out.below HBI.out hz2).at k (by rw [natL_len]; exact hlt)
              rw [natL_get, ← HV.out] at hd2
              obtain ⟨b3, o3, rfl, _, hb3, hd3⟩ := (HK.out.below HBI.out (Nat.le_refl _)).at U (by rw [kindsL_len]; exact hUp)
              rw [kindsL_get] at hd3
              obtain ⟨b4, o4, e4, _, hb4, hd4⟩ := (HK.out.below HBI.out (Nat.le_refl _)).at V (by rw [kindsL_len]; exact hVp)
              cases e4
              rw [kindsL_get] at hd4
              clear hU
              cases fb
              · have HN : Hid (frshB p l V (j + 1) = false) := Lib.hid (by rw [HFS.out, HFB.out]; rfl)
                go_wp2_with fail
                go_quiet (fail)
                go_wp2_with fail
                go_roundw
                case rel => exact ⟨j + 1, false, by omega, by go_num, rfl, HN.out, HQ.out.n _⟩
                case measure => simp [intOf]; omega
              · by_cases hkk : kind p U = kind p V
                · have HN : Hid (frshB p l V (j + 1) = false) := Lib.hid (by rw [HFS.out, hkk]; simp)
                  rw [hkk] at hd3
                  obtain ⟨K, hK⟩ : ∃ K, K = kind p V := ⟨_, rfl⟩
                  rw [← hK] at hd3 hd4
                  clear hkk hK
                  go_wp2_with fail
                  go_quiet (fail)
                  go_wp2_with fail
                  go_roundw
                  case rel => exact ⟨j + 1, false, by omega, by go_num, rfl, HN.out, HQ.out.n _⟩
                  case measure => simp [intOf]; omega
                · have HN : Hid (frshB p l V (j + 1) = true) := Lib.hid (by rw [HFS.out, HFB.out]; simp [hkk])
                  obtain ⟨K, hK⟩ : ∃ K, K = kind p V := ⟨_, rfl⟩
                  obtain ⟨J, hJ⟩ : ∃ J, J = kind p U := ⟨_, rfl⟩
                  rw [← hK] at hd4 hkk
                  rw [← hJ] at hd3 hkk
                  have hne : ((J : Int) != (K : Int)) = true := bne_iff_ne.2 (by omega)
                  clear hkk hK hJ
                  go_wp2_with fail
                  go_quiet (fail)
                  go_wp2_with fail
                  go_roundw
                  case rel => exact ⟨j + 1, true, by omega, by go_num, rfl, HN.out, HQ.out.n _⟩
                  case measure => simp [intOf]; omega
            · obtain rfl : j = l.length := by omega
              obtain ⟨b2, o2, rfl, _, hb2, hd2⟩ := (HR2.out.below HBI.out hz2).at k (by rw [natL_len]; exact hlt)
              rw [natL_get, ← HV.out] at hd2
              have hzi : w2.heap.size ≤ wr.heap.size := HBI.out.size
              cases fb
              · have HN : Hid (jfold p i (R.take (k + 1)) = l) := Lib.hid (by rw [HJS.out, jstep_fresh, HFB.out]; rfl)
                go_wp2_with fail
                go_roundw
                case rel => exact ⟨k + 1, l, x, cc, by omega, by go_num, HN.out.symm, by omega, HLN.out, rfl, HOI.out.mono (Nat.le_refl _) (HQ.out.below (B := wk.heap.size)).size, HBI.out⟩
                case measure => simp [intOf]; omega
              · have HN : Hid (jfold p i (R.take (k + 1)) = l ++ [V]) := Lib.hid (by rw [HJS.out, jstep_fresh, HFB.out]; rfl)
                have hwkr : wk.heap.size ≤ wr.heap.size := (HQ.out.below (B := wk.heap.size)).size
                go_wp2_with (at_builtin; go_loud (refine wpList_appI Try.underlying24 Try.infoInt _ rfl _ _ rfl w2.heap.size wk.heap.size x cc (natL l) (by rw [natL_len]; rfl) (HOI.out.agr ((Agr.refl _ _ _).alloc (by omega) _)) (by simp; omega) ⟨wr.heap.size, 0, none⟩ V rfl (new_cellE _ _ _ rfl) (by rw [natL_len]; omega) ?_); intro g2 c2 w3 hown hgrow hat hg2; have HG := Lib.hid hgrow; have HO3 := Lib.hid hown; clear hown hgrow hat)
                have HB3 := Lib.hid (below_app HBI.out HG.out (HOI.out.app_in (Nat.le_refl _)) (Nat.le_refl _) (Nat.le_refl _))
                rw [natL_len]
                go_wp2_with fail
                go_roundw
                case rel => exact ⟨k + 1, l ++ [V], some ⟨g2, 0, none⟩, c2, by omega, by go_num, HN.out.symm, by rw [List.length_append]; show l.length + 1 ≤ _; omega, fun j hj => by
                  rw [List.length_append] at hj
                  have hj' : j < l.length + 1 := hj
                  rcases Nat.lt_or_ge j l.length with h1 | h1
                  · have := HLN.out j h1
                    simpa [List.getD, List.getElem?_append_left h1] using this
                  · have e : j = l.length := by omega
                    subst e
                    simpa [List.getD] using hVp, by rw [List.length_append]; rfl, by rw [natL_snoc]; exact HO3.out, HB3.out⟩
                case measure => simp [intOf]; omega
        · obtain rfl : k = R.length := by omega
          have hle : l = joinedL p i := by rw [HLJ.out, List.take_of_length_le (Nat.le_refl _), HRR.out]; rfl
          have HLE := Lib.hid hle
          have hfit := (joinedL_fit hi).len
          rw [← hle] at hfit
          clear hle
          go_wp2_with fail
          refine (l4Part_any a cap p ak ck x cc l wr B C _ _ _ _ (F.out.below (HB2.out.trans (HBR.out.mono (by omega))) hC) (by omega) HS.out (by omega) (HK.out.below HBR.out (Nat.le_refl _)) hzr HO.out.rd (Nat.le_refl _) HLN.out hfit).mono ?_
          rintro e w3 ⟨x3, c3, rfl, ho3, hb3⟩
          have HB3 := Lib.hid ((HB2.out.trans (HBR.out.mono (by omega))).trans (hb3.mono (by omega)))
          have HO3 := Lib.hid ho3
          clear ho3 hb3
          go_wp2_with fail
          go_ret
          exact retII_of (by rw [HJ.out, ← HLE.out]) (HO3.out.mono (by omega) (Nat.le_refl _)) HB3.out
end Go.Proofs.Ytfjodcfbhpglhaa
namespace Go.Hyp
/-- v is a member of i. -/
def Mem (p : List (List Int)) (i v : Nat) : Prop := v < p.length ∧ arr p i v = true
theorem Rea.trans {p : List (List Int)} {i j k : Nat} (h : Rea p i j) (h2 : Rea p j k) : Rea p i k :=
  Rea.ind (Q := fun x => Rea p i x) h (fun _ _ hx hlt ha => hx.step hlt ha) k h2
/-- The first arrow of a way. -/
theorem Rea.head {p : List (List Int)} {i j : Nat} (h : Rea p i j) (hj : j < p.length) : i = j ∨ ∃ u, Mem p i u ∧ Rea p u j := by
  have key : j < p.length → i = j ∨ ∃ u, Mem p i u ∧ Rea p u j := by
    refine Rea.ind (Q := fun x => x < p.length → i = x ∨ ∃ u, Mem p i u ∧ Rea p u x) (fun _ => .inl rfl) (fun x y hx hlt ha hy => ?_) j h
    rcases hx hlt with rfl | ⟨u, h1, h2⟩
    · exact .inr ⟨y, ⟨hy, ha⟩, Rea.refl p y⟩
    · exact .inr ⟨u, h1, h2.step hlt ha⟩
  exact key hj
/-- One comes from a node by one arrow or more back to it. -/
def OnLoop (p : List (List Int)) (i : Nat) : Prop := ∃ u, Mem p i u ∧ Rea p u i
/-- One comes from a node back to some node. -/
def Back (p : List (List Int)) (i : Nat) : Prop := ∃ v, v < p.length ∧ Rea p i v ∧ OnLoop p v
/-- No way goes on for ever. -/
def Grd (p : List (List Int)) (i : Nat) : Prop := _root_.Acc (fun v x => Mem p x v) i
theorem Grd.mem {p : List (List Int)} {i v : Nat} (h : Grd p i) (hv : Mem p i v) : Grd p v := h.inv hv
theorem Grd.no_loop {p : List (List Int)} {i : Nat} (h : Grd p i) : i < p.length → ¬ OnLoop p i := by
  induction h with
  | intro i _ ih =>
    rintro hi ⟨u, hu, hr⟩
    rcases hr.head hi with rfl | ⟨u', h1, h2⟩
    · exact ih u hu hu.1 ⟨u, hu, Rea.refl p u⟩
    · exact ih u hu hu.1 ⟨u', h1, h2.step hi hu.2⟩
theorem Grd.reach {p : List (List Int)} {i v : Nat} (h : Grd p i) (hr : Rea p i v) (hv : v < p.length) : Grd p v :=
  (Rea.ind (Q := fun x => x < p.length → Grd p x) (fun _ => h) (fun _ _ hx hlt ha hy => (hx hlt).mem ⟨hy, ha⟩) v hr) hv
theorem Grd.no_back {p : List (List Int)} {i : Nat} (h : Grd p i) : ¬ Back p i := fun ⟨_, hv, hr, hl⟩ => (h.reach hr hv).no_loop hv hl
/-- How many nodes are reached. -/
def reachN (p : List (List Int)) (i : Nat) : Nat := ((List.range p.length).filter (reaN p i p.length)).length
theorem Back.step {p : List (List Int)} {i v : Nat} (hi : i < p.length) (hv : Mem p i v) (h : Back p v) : Back p i := by
  obtain ⟨x, hx, hr, hl⟩ := h
  exact ⟨x, hx, ((Rea.refl p i).step hi hv.2).trans hr, hl⟩
theorem reachN_lt {p : List (List Int)} {i v : Nat} (hi : i < p.length) (hv : Mem p i v) (h : ¬ Back p i) : reachN p v < reachN p i := by
  refine filter_lt _ _ _ (fun x hx hr => ?_) i (List.mem_range.2 hi) ?_ (reaN_full hi hi (Rea.refl p i))
  · exact reaN_full hi (List.mem_range.1 hx) (((Rea.refl p i).step hi hv.2).trans ⟨_, hr⟩)
  · cases e : reaN p v p.length i
    · rfl
    · exact absurd ⟨i, hi, Rea.refl p i, v, hv, _, e⟩ h
theorem grd_of {p : List (List Int)} : ∀ (n i : Nat), reachN p i ≤ n → i < p.length → ¬ Back p i → Grd p i := by
  intro n
  induction n with
  | zero =>
    intro i hn hi h
    have : i ∈ (List.range p.length).filter (reaN p i p.length) := List.mem_filter.2 ⟨List.mem_range.2 hi, reaN_full hi hi (Rea.refl p i)⟩
    have := List.length_pos_of_mem this
    unfold reachN at hn
    omega
  | succ n ih =>
    intro i hn hi h
    refine ⟨_, fun v hv => ?_⟩
    have := reachN_lt hi hv h
    exact ih v (by omega) hv.1 (fun hb => h (hb.step hi hv))
theorem grd_iff {p : List (List Int)} {i : Nat} (hi : i < p.length) : Grd p i ↔ ¬ Back p i := ⟨Grd.no_back, grd_of _ i (Nat.le_refl _) hi⟩
/-- That no way goes on for ever is a fact of the set. -/
theorem Grd.same {p q : List (List Int)} {i : Nat} (h : Grd p i) : ∀ j, Same p i q j → Grd q j := by
  induction h with
  | intro i _ ih =>
    intro j hs
    refine ⟨_, fun u hu => ?_⟩
    obtain ⟨v, hv, ha, hsv⟩ := hs.symm.to hu.1 hu.2
    exact ih v ⟨hv, ha⟩ u hsv.symm
/-! ### codes -/
/-- The set at i has the code n. -/
inductive Code (p : List (List Int)) : Nat → Nat → Prop
  | mk (i n : Nat) (c : Nat → Nat) (h1 : ∀ v, Mem p i v → c v ≤ 15) (h2 : ∀ v, Mem p i v → Code p v (c v)) (h3 : ∀ m, n.testBit m = true ↔ ∃ v, Mem p i v ∧ c v = m) : Code p i n
theorem Code.grd {p : List (List Int)} {i n : Nat} (h : Code p i n) : Grd p i := by
  induction h with
  | mk i n c _ _ _ ih => exact ⟨_, fun v hv => ih v hv⟩
theorem Code.unique {p q : List (List Int)} {i n : Nat} (h : Code p i n) : ∀ j m, Same p i q j → Code q j m → n = m := by
  induction h with
  | mk i n c h1 h2 h3 ih =>
    intro j m hs hm
    cases hm with
    | mk _ _ d g1 g2 g3 =>
      apply Nat.eq_of_testBit_eq
      intro b
      rw [Bool.eq_iff_iff, h3, g3]
      constructor
      · rintro ⟨v, hv, rfl⟩
        obtain ⟨u, hu, ha, hsu⟩ := hs.to hv.1 hv.2
        exact ⟨u, ⟨hu, ha⟩, (ih v hv u (d u) hsu (g2 u ⟨hu, ha⟩)).symm⟩
      · rintro ⟨u, hu, rfl⟩
        obtain ⟨v, hv, ha, hsv⟩ := hs.symm.to hu.1 hu.2
        exact ⟨v, ⟨hv, ha⟩, ih v ⟨hv, ha⟩ u (d u) hsv.symm (g2 u hu)⟩
theorem Code.one {p : List (List Int)} {i n m : Nat} (hi : i < p.length) (h : Code p i n) (k : Code p i m) : n = m := h.unique i m (Same.refl hi) k
theorem Code.same {p q : List (List Int)} {i n : Nat} (h : Code p i n) : ∀ j, Same p i q j → Code q j n := by
  induction h with
  | mk i n c h1 h2 h3 ih =>
    intro j hs
    have hex : ∀ u, ∃ v, Mem q j u → (Mem p i v ∧ Same p v q u) := fun u => by
      by_cases hu : Mem q j u
      · obtain ⟨v, hv, ha, hsv⟩ := hs.symm.to hu.1 hu.2
        exact ⟨v, fun _ => ⟨⟨hv, ha⟩, hsv.symm⟩⟩
      · exact ⟨0, fun h => absurd h hu⟩
    obtain ⟨f, hf⟩ := Classical.axiomOfChoice hex
    refine .mk j n (fun u => c (f u)) (fun u hu => h1 _ (hf u hu).1) (fun u hu => ih (f u) (hf u hu).1 u (hf u hu).2) (fun m => ?_)
    rw [h3]
    constructor
    · rintro ⟨v, hv, rfl⟩
      obtain ⟨u, hu, ha, hsu⟩ := hs.to hv.1 hv.2
      refine ⟨u, ⟨hu, ha⟩, ?_⟩
      have h4 := ih (f u) (hf u ⟨hu, ha⟩).1 u (hf u ⟨hu, ha⟩).2
      exact (Code.unique (h2 v hv) u _ hsu h4).symm
    · rintro ⟨u, hu, rfl⟩
      exact ⟨f u, (hf u hu).1, rfl⟩
theorem Code.inj {p q : List (List Int)} {i n : Nat} (h : Code p i n) : i < p.length → ∀ j, j < q.length → Code q j n → Same p i q j := by
  induction h with
  | mk i n c h1 h2 h3 ih =>
    intro hi j hj hq
    cases hq with
    | mk _ _ d g1 g2 g3 =>
      refine same_of_members hi hj (fun v hv ha => ?_) (fun u hu ha => ?_)
      · obtain ⟨u, hu, e⟩ := (g3 (c v)).1 ((h3 (c v)).2 ⟨v, ⟨hv, ha⟩, rfl⟩)
        exact ⟨u, hu.1, hu.2, ih v ⟨hv, ha⟩ hv u hu.1 (e ▸ g2 u hu)⟩
      · obtain ⟨v, hv, e⟩ := (h3 (d u)).1 ((g3 (d u)).2 ⟨u, ⟨hu, ha⟩, rfl⟩)
        exact ⟨v, hv.1, hv.2, ih v hv hv.1 u hu (e ▸ g2 u ⟨hu, ha⟩)⟩
/-- Codes are equal exactly if the sets are. -/
theorem Code.iff {p q : List (List Int)} {i j n m : Nat} (hi : i < p.length) (hj : j < q.length) (h : Code p i n) (k : Code q j m) : n = m ↔ Same p i q j :=
  ⟨fun e => h.inj hi j hj (e ▸ k), fun hs => h.unique j m hs k⟩
theorem Code.has {p q : List (List Int)} {i j n m : Nat} (hj : j < q.length) (h : Code p i n) (k : Code q j m) : n.testBit m = true ↔ ∃ v, Mem p i v ∧ Same p v q j := by
  cases h with
  | mk _ _ c h1 h2 h3 =>
    rw [h3]
    constructor
    · rintro ⟨v, hv, rfl⟩
      exact ⟨v, hv, (h2 v hv).inj hv.1 j hj k⟩
    · rintro ⟨v, hv, hs⟩
      exact ⟨v, hv, (h2 v hv).unique j m hs k⟩
theorem Code.mem_le {p : List (List Int)} {i n v m : Nat} (h : Code p i n) (hv : Mem p i v) (k : Code p v m) : m ≤ 15 := by
  cases h with
  | mk _ _ c h1 h2 h3 => rw [← (h2 v hv).one hv.1 k]; exact h1 v hv
theorem Code.mem {p : List (List Int)} {i n v : Nat} (h : Code p i n) (hv : Mem p i v) : ∃ m, m ≤ 15 ∧ Code p v m := by
  cases h with
  | mk _ _ c h1 h2 h3 => exact ⟨_, h1 v hv, h2 v hv⟩
theorem Code.lt {p : List (List Int)} {i n : Nat} (h : Code p i n) : n < 65536 := by
  cases h with
  | mk _ _ c h1 h2 h3 =>
    have : n < 2 ^ 16 := by
      apply Nat.lt_pow_two_of_testBit
      intro b hb
      cases e : n.testBit b
      · rfl
      · obtain ⟨v, hv, e'⟩ := (h3 b).1 e
        have := h1 v hv
        omega
    exact this
end Go.Hyp
