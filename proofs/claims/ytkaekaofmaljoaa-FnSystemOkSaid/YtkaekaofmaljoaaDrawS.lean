/- Walks of the functions by which the laws draw streams: what comes is a pair of short slices of numbers. -/
import Derived.Test.YtkaekaofmaljoaaPick
import Derived.Test.YtkaekaofmaljoaaStr
import Derived.Deep.RegionHeld3
import Derived.Deep.RegionLaw
import Derived.Deep.Cut
namespace Go.Proofs.Ytkaekaofmaljoaa
open Go.RowKit Go.Hyp Go.Deep

set_option maxHeartbeats 1000000 in
theorem l20Stream_any (rb : Nat) (l : List Int) (p n : Nat) (w : World) (hr : Rdr w rb 63 l p) (hp : p ≤ 524288) (hn : n ≤ 1048576) :
    Calls Try.prog 32 #[.pointer (some ⟨rb, 0, none⟩), .int .i64 n] w (DrewS rb 63 l p 40 w) := by
  have hlt := hr.lt
  have b0 := alloc2 w (.cells #[.slice none 0 0, .slice none 0 0] 27) (.cells #[.slice none 0 0, .slice none 0 0] 27)
  have HB := Lib.hid b0
  have HR := Lib.hid (hr.below ((below_alloc w (.cells #[.slice none 0 0, .slice none 0 0] 27)).alloc (by simp) (.cells #[.slice none 0 0, .slice none 0 0] 27)) hlt)
  have HC := Lib.hid (((Chg.refl (· = rb) w).alloc (.cells #[.slice none 0 0, .slice none 0 0] 27)).alloc (.cells #[.slice none 0 0, .slice none 0 0] 27))
  clear b0 hr
  go_enter Try.func32, Try.ntmps32
  go_wp2_with fail
  refine (pick_rdr rb l p 3 _ HR.out (by omega) (by omega)).mono ?_
  rintro e w1 ⟨v, rfl, v0, v1, hr1, hc1, hz1⟩
  obtain ⟨k0, rfl⟩ := Int.eq_ofNat_of_zero_le v0
  have B1 := Lib.hid (hc1.blk HB.out.1 (by omega))
  have B2 := Lib.hid (hc1.blk HB.out.2 (by omega))
  have HR1 := Lib.hid hr1
  have HC1 := Lib.hid (HC.out.trans hc1)
  simp at hz1
  have HZ := Lib.hid hz1
  clear hc1 hr1 hz1 HB HR HC
  have hk0 : k0 ≤ 2 := by omega
  clear v1
  go_wp2_with fail
  go_loopw [6] (fun i wr => ∃ (k : Nat) (l1 : List Int) (a : Option Addr) (c p' : Nat), i = .int .i64 k ∧ k + l1.length ≤ 2 ∧ wr.heap[w.heap.size + 1]? = some (.cells #[.slice a l1.length c, .slice none 0 0] 27 (0, 0)) ∧
      wr.heap[w.heap.size]? = some (.cells #[.slice none 0 0, .slice none 0 0] 27 (0, 0)) ∧ OwI wr 3 (w.heap.size + 2) wr.heap.size a c l1 ∧ p ≤ p' ∧ p' + k ≤ p + 3 ∧ Rdr wr rb 63 l p' ∧ Chg (· = rb) w wr ∧ w.heap.size + 2 ≤ wr.heap.size) (fun i _ => (intOf i).toNat)
  case atStart => exact ⟨k0, [], none, 0, p + 1, rfl, by simpa using hk0, B2.out, B1.out, .inl ⟨rfl, rfl, rfl⟩, by omega, by omega, HR1.out, HC1.out, by have := HZ.out; omega⟩
  case round =>
    obtain ⟨k, l1, a, c, p', rfl, hk, hb2, hb1, ho, hp1, hp2, hr', hc', hz⟩ := hrel
    have HO := Lib.hid ho
    have HB1 := Lib.hid hb1
    have HB2 := Lib.hid hb2
    have HR' := Lib.hid hr'
    have HC' := Lib.hid hc'
    obtain ⟨q0, q1, q2, q3⟩ := blk2 hb2
    clear ho hb1 hb2 hr' hc' B1 B2 HR1 HC1 HZ
    by_cases h0 : 0 < k
    · go_wp2_with fail
      go_region_law (first
          | (refine step_appI Try.underlying22 Try.infoInt _ (by rfl) _ _ (by rfl) (w.heap.size + 2) wr.heap.size a c l1 (by rfl) (by exact HO2.out.agr ((Agr.refl _ _ _).alloc (by have := HZ2.out; omega) _)) (by simp; have := HZ2.out; omega) ⟨w2.heap.size, 0, none⟩ v (by rfl) (by exact new_cell _ _ _) (by omega) ?_
             intro g cap' w3 hown3 hgrow hat hlt3
             have hne := HO.out.not_block (k := w.heap.size + 1) (by omega)
             have hne0 := HO.out.not_block (k := w.heap.size) (by omega)
             have hb3 := grown_blk hgrow (blk_old B2'.out) hne
             obtain ⟨q0, q1, q2, q3⟩ := blk2 hb3
             have B3 := Lib.hid hb3
             have B3' := Lib.hid (grown_blk hgrow (blk_old B1'.out) hne0)
             have HO3 := Lib.hid hown3
             have hz3 : w.heap.size + 2 ≤ w3.heap.size := by have := hgrow.size; simp at this; omega
             have HC3 := Lib.hid ((HC2.out.alloc _).grown hgrow (fun k hk => .inr (by have := HO.out.block_in hk; omega)))
             have HR3 := Lib.hid (HR2.out.agr (fun k h1 h2 => ((hgrow.block k (by have := HZ2.out; simp; omega) (fun e => by have := HO.out.block_in e.symm; omega)).trans (Below.heap_alloc _ _ _ (by have := HZ2.out; omega)))))
             clear hb3 hown3 hgrow hne hne0)
          | (go_simp
             go_at_call 40
             refine (pick_rdr rb l p' 2 _ (by exact HR'.out) (by omega) (by omega)).mono ?_
             rintro e w2 ⟨v, rfl, v0, v1, hr2, hc2, hz2⟩
             replace hc2 := hc2.undrew
             have hz2' : w2.heap.size = wr.heap.size := hz2
             have hb2' := hc2.blk (k := w.heap.size + 1) HB2.out (by omega)
             have hb1' := hc2.blk (k := w.heap.size) HB1.out (by omega)
             have hlt2 : w.heap.size + 1 < w2.heap.size := by omega
             obtain ⟨q0, q1, q2, q3⟩ := blk2 hb2'
             have B2' := Lib.hid hb2'
             have B1' := Lib.hid hb1'
             have HR2 := Lib.hid hr2
             have HC2 := Lib.hid (HC'.out.trans hc2)
             have HO2 := Lib.hid (HO.out.agr (hc2.agr (Nat.le_refl _) (fun k h1 h2 => by omega)))
             have HZ2 := Lib.hid hz2'
             clear hr2 hc2 hb1' hb2' hz2 hz2'))
      all_goals
        go_wp2_with fail
        go_roundw
        case rel =>
          have hl : (l1 ++ [v]).length = l1.length + 1 := by simp
          refine ⟨k - 1, l1 ++ [v], some ⟨g, 0, none⟩, cap', p' + 1, int_eq (by omega), by omega, by rw [hl]; exact blk_set _ B3.out, blk_set_other _ B3'.out (by omega), ?_, by omega, by omega, HR3.out.agr ((Agr.refl _ _ _).set (by omega) _), HC3.out.set (.inr (by omega)) _, ?_⟩
          · exact (HO3.out.agr ((Agr.refl _ _ _).set (by omega) _)).mono (Nat.le_refl _) (by simp)
          · simp; omega
        case measure => simp [intOf]; omega
    · obtain rfl : k = 0 := by omega
      have RA := Lib.hid HO.out.rd
      have hX0 := hz
      go_wp2_with fail
      refine (pick_rdr rb l p' 4 _ HR'.out (by omega) (by omega)).mono ?_
      rintro e w1' ⟨v, rfl, v0, v1, hr1, hc1, hz1⟩
      obtain ⟨k1, rfl⟩ := Int.eq_ofNat_of_zero_le v0
      have HB2' := Lib.hid (hc1.blk HB2.out (by omega))
      have HB1' := Lib.hid (hc1.blk HB1.out (by omega))
      have HR1 := Lib.hid hr1
      have HC1 := Lib.hid (HC'.out.trans hc1)
      have RA' := Lib.hid (RA.out.agr (hc1.agr (Nat.le_refl _) (fun k h1 h2 => by omega)))
      have hX : w.heap.size + 2 ≤ w1'.heap.size := by omega
      have HZ1 := Lib.hid hz1
      have hk1 : k1 ≤ 3 := by omega
      clear hc1 hr1 v1 hX0 hz1 HB1 HB2 HR' HC' HO RA q0 q1 q2 q3 hz
      generalize hXe : wr.heap.size = X at RA' HZ1
      have HXe := Lib.hid hXe
      have hX2 : w.heap.size + 2 ≤ X := by have := HZ1.out; omega
      clear hXe
      go_wp2_with fail
      go_loopw [7] (fun i wr => ∃ (k : Nat) (l2 : List Int) (a2 : Option Addr) (c2 p2 : Nat), i = .int .i64 k ∧ k + l2.length ≤ 4 ∧ 1 ≤ k + l2.length ∧ wr.heap[w.heap.size + 1]? = some (.cells #[.slice a l1.length c, .slice a2 l2.length c2] 27 (0, 0)) ∧
          wr.heap[w.heap.size]? = some (.cells #[.slice none 0 0, .slice none 0 0] 27 (0, 0)) ∧ OwI wr 3 X wr.heap.size a2 c2 l2 ∧ RdI wr (w.heap.size + 2) X a l1 ∧ p ≤ p2 ∧ p2 + k ≤ p + 8 ∧ Rdr wr rb 63 l p2 ∧ Chg (· = rb) w wr ∧ X ≤ wr.heap.size) (fun i _ => (intOf i).toNat)
      case atStart => exact ⟨k1 + 1, [], none, 0, p' + 1, int_eq (by omega), by simp; omega, by omega, HB2'.out, HB1'.out, .inl ⟨rfl, rfl, rfl⟩, RA'.out, by omega, by omega, HR1.out, HC1.out, by have := HZ1.out; omega⟩
      case round =>
        obtain ⟨k, l2, a2, c2, p2, rfl, hk2, hk3, hb2, hb1, ho, hrd, hp3, hp4, hr', hc', hz⟩ := hrel
        have HO := Lib.hid ho
        have HRD := Lib.hid hrd
        have HB1 := Lib.hid hb1
        have HB2 := Lib.hid hb2
        have HR' := Lib.hid hr'
        have HC' := Lib.hid hc'
        obtain ⟨q0, q1, q2, q3⟩ := blk2 hb2
        clear ho hb1 hb2 hr' hc' hrd HB1' HB2' HR1 HC1 HZ1 RA'
        by_cases h0 : 0 < k
        · go_wp2_with fail
          go_region_law (first
              | (refine step_appI Try.underlying22 Try.infoInt _ (by rfl) _ _ (by rfl) X wr.heap.size a2 c2 l2 (by rfl) (by exact HO2.out.agr ((Agr.refl _ _ _).alloc (by have := HZ2.out; omega) _)) (by simp; have := HZ2.out; omega) ⟨w2.heap.size, 0, none⟩ v (by rfl) (by exact new_cell _ _ _) (by omega) ?_
                 intro g cap' w3 hown3 hgrow hat hlt3
                 have hne := HO.out.not_block (k := w.heap.size + 1) (by omega)
                 have hne0 := HO.out.not_block (k := w.heap.size) (by omega)
                 have hb3 := grown_blk hgrow (blk_old B2'.out) hne
                 obtain ⟨q0, q1, q2, q3⟩ := blk2 hb3
                 have B3 := Lib.hid hb3
                 have B3' := Lib.hid (grown_blk hgrow (blk_old B1'.out) hne0)
                 have HO3 := Lib.hid hown3
                 have hz3 : X ≤ w3.heap.size := by have := hgrow.size; simp at this; have := HZ2.out; omega
                 have HC3 := Lib.hid ((HC2.out.alloc _).grown hgrow (fun k hk => .inr (by have := HO.out.block_in hk; omega)))
                 have HRD3 := Lib.hid (HRD2.out.agr (fun k h1 h2 => ((hgrow.block k (by have := HZ2.out; simp; omega) (fun e => by have := HO.out.block_in e.symm; omega)).trans (Below.heap_alloc _ _ _ (by have := HZ2.out; omega)))))
                 have HR3 := Lib.hid (HR2.out.agr (fun k h1 h2 => ((hgrow.block k (by have := HZ2.out; simp; omega) (fun e => by have := HO.out.block_in e.symm; omega)).trans (Below.heap_alloc _ _ _ (by have := HZ2.out; omega)))))
                 clear hb3 hown3 hgrow hne hne0)
              | (go_simp
                 go_at_call 40
                 refine (pick_rdr rb l p2 2 _ (by exact HR'.out) (by omega) (by omega)).mono ?_
                 rintro e w2 ⟨v, rfl, v0, v1, hr2, hc2, hz2⟩
                 replace hc2 := hc2.undrew
                 have hz2' : w2.heap.size = wr.heap.size := hz2
                 have hb2' := hc2.blk (k := w.heap.size + 1) HB2.out (by omega)
                 have hb1' := hc2.blk (k := w.heap.size) HB1.out (by omega)
                 have hlt2 : w.heap.size + 1 < w2.heap.size := by omega
                 obtain ⟨q0, q1, q2, q3⟩ := blk2 hb2'
                 have B2' := Lib.hid hb2'
                 have B1' := Lib.hid hb1'
                 have HR2 := Lib.hid hr2
                 have HC2 := Lib.hid (HC'.out.trans hc2)
                 have HO2 := Lib.hid (HO.out.agr (hc2.agr (Nat.le_refl _) (fun k h1 h2 => by omega)))
                 have HRD2 := Lib.hid (HRD.out.agr (hc2.agr hz (fun k h1 h2 => by omega)))
                 have HZ2 := Lib.hid hz2'
                 clear hr2 hc2 hb1' hb2' hz2 hz2'))
          all_goals
            go_wp2_with fail
            go_roundw
            case rel =>
              have hl : (l2 ++ [v]).length = l2.length + 1 := by simp
              refine ⟨k - 1, l2 ++ [v], some ⟨g, 0, none⟩, cap', p2 + 1, int_eq (by omega), by omega, by omega, by rw [hl]; exact blk_set _ B3.out, blk_set_other _ B3'.out (by omega), ?_, HRD3.out.agr ((Agr.refl _ _ _).set (by omega) _), by omega, by omega, HR3.out.agr ((Agr.refl _ _ _).set (by omega) _), HC3.out.set (.inr (by omega)) _, by simpa using hz3⟩
              exact (HO3.out.agr ((Agr.refl _ _ _).set (by omega) _)).mono (Nat.le_refl _) (by simp)
            case measure => simp [intOf]; omega
        · obtain rfl : k = 0 := by omega
          go_wp2_with fail
          refine (pick_rdr rb l p2 3 _ HR'.out (by omega) (by omega)).mono ?_
          rintro e w4 ⟨v, rfl, v0, v1, hr1, hc1, hz1⟩
          obtain ⟨k2, rfl⟩ := Int.eq_ofNat_of_zero_le v0
          have HB2' := Lib.hid (hc1.blk HB2.out (by omega))
          have HB1' := Lib.hid (hc1.blk HB1.out (by omega))
          have HR1 := Lib.hid hr1
          have HC1 := Lib.hid (HC'.out.trans hc1)
          have HO1 := Lib.hid (HO.out.agr (hc1.agr (Nat.le_refl _) (fun k h1 h2 => by omega)))
          have HRD1 := Lib.hid (HRD.out.agr (hc1.agr hz (fun k h1 h2 => by omega)))
          have hzX : X ≤ w4.heap.size := by omega
          have hlt4 : w.heap.size + 1 < w4.heap.size := by omega
          have HZ1 := Lib.hid hz1
          clear hc1 hr1 hz1 HB1 HB2 HR' HC' HO HRD q0 q1 q2 q3
          obtain ⟨q0, q1, q2, q3⟩ := blk2 HB2'.out
          go_upto_if 38 with (fail)
          go_cut [] from 38 (fun wc => ∃ (a3 : Option Addr) (c3 : Nat) (l3 : List Int), 1 ≤ l3.length ∧ l3.length ≤ 8 ∧ wc.heap[w.heap.size + 1]? = some (.cells #[.slice a l1.length c, .slice a3 l3.length c3] 27 (0, 0)) ∧
            wc.heap[w.heap.size]? = some (.cells #[.slice none 0 0, .slice none 0 0] 27 (0, 0)) ∧ OwI wc 3 X wc.heap.size a3 c3 l3 ∧ RdI wc (w.heap.size + 2) X a l1 ∧ Rdr wc rb 63 l (p2 + 1) ∧ Chg (· = rb) w wc ∧ X ≤ wc.heap.size)
          case first =>
            by_cases hk : k2 = 0
            · have hkb : ((k2 : Int) == 0) = true := beq_iff_eq.2 (by omega)
              have Hk := Lib.hid hk
              clear hk
              go_wp2_with fail
              go_region_law (first
              | (refine step_appIs Try.underlying22 Try.infoInt _ (by rfl) _ _ (by rfl) w4.heap.size (w4.heap.size + 1) (some ⟨w4.heap.size, 0, none⟩) 0 [] (by rfl) (by exact OwI_empty w4 3) (by simp) X wr.heap.size a2 c2 l2 (by rfl) (by exact HO1.out.rd.agr (((Agr.refl _ _ _).alloc (by have := HZ1.out; omega) _).drew)) (by exact HO1.out.nilcap) (by simp; omega) ?_
                 intro a3 c3 w6 hown6 hgrow6 hat6
                 have hbk : blockOf (some (⟨w4.heap.size, 0, none⟩ : Addr)) = some w4.heap.size := rfl
                 have hb6 := grown_blk hgrow6 (blk_old HB2'.out) (by rw [hbk]; simp; have := lt_of_block HB2'.out; omega)
                 have hb6' := grown_blk hgrow6 (blk_old HB1'.out) (by rw [hbk]; simp; have := lt_of_block HB1'.out; omega)
                 have hz6 : w4.heap.size + 1 ≤ w6.heap.size := by have := hgrow6.size; simpa using this
                 have HAG : Hid (Agr 0 w4.heap.size w4 w6) := fun k h1 h2 => (hgrow6.block k (by simp; omega) (by rw [hbk]; simp; omega)).trans (Below.heap_alloc _ _ _ h2)
                 obtain ⟨q0, q1, q2, q3⟩ := blk2 hb6
                 have B6 := Lib.hid hb6
                 have B6' := Lib.hid hb6'
                 have HO6 := Lib.hid hown6
                 have HC6 := Lib.hid ((HC1.out.alloc _).drew.grown hgrow6 (fun k hk => .inr (by rw [hbk] at hk; cases hk; have := HC1.out.size; omega)))
                 clear hb6 hb6' hown6 hgrow6)
              | (refine step_appIs Try.underlying22 Try.infoInt _ (by rfl) _ _ (by rfl) w4.heap.size w6.heap.size a3 c3 l2 (by rfl) (by exact HO6.out) (by omega) X wr.heap.size a2 c2 l2 (by rfl) (by exact HO1.out.rd.agr (HAG.out.mono (by omega) (by have := HZ1.out; omega))) (by exact HO1.out.nilcap) (by omega) ?_
                 intro a4 c4 w7 hown7 hgrow7 hat7
                 have hb7 := grown_blk hgrow7 B6.out (HO6.out.not_block (by have := lt_of_block HB2'.out; omega))
                 have hb7' := grown_blk hgrow7 B6'.out (HO6.out.not_block (by have := lt_of_block HB1'.out; omega))
                 have HAG7 : Hid (Agr 0 w4.heap.size w4 w7) := fun k h1 h2 => (hgrow7.block k (by omega) (fun e => by have := HO6.out.block_in e.symm; omega)).trans (HAG.out k h1 h2)
                 obtain ⟨q0, q1, q2, q3⟩ := blk2 hb7
                 have hz7 : w4.heap.size + 1 ≤ w7.heap.size := by have := hgrow7.size; omega
                 have B7 := Lib.hid hb7
                 have B7' := Lib.hid hb7'
                 have HO7 := Lib.hid hown7
                 have HC7 := Lib.hid (HC6.out.grown hgrow7 (fun k hk => .inr (by have := HO6.out.block_in hk; have := HC1.out.size; omega)))
                 clear hb7 hb7' hown7 hgrow7))
              all_goals
                go_wp2_with fail
                go_meet
                case rel =>
                  have hl : (([] ++ l2) ++ l2 : List Int).length = l2.length + l2.length := by simp
                  refine ⟨a4, c4, ([] ++ l2) ++ l2, by omega, by omega, by rw [hl]; exact blk_set _ B7.out, blk_set_other _ B7'.out (by omega), ?_, (HRD1.out.agr (HAG7.out.mono (by omega) (by omega))).agr ((Agr.refl _ _ _).set (by omega) _), ?_, HC7.out.set (.inr (by omega)) _, by simp; omega⟩
                  · exact (HO7.out.agr ((Agr.refl _ _ _).set (by omega) _)).mono (by omega) (by simp)
                  · exact (HR1.out.agr (HAG7.out.mono (by omega) (by omega))).agr ((Agr.refl _ _ _).set (by omega) _)
            · have hkb : ((k2 : Int) == 0) = false := beq_eq_false_iff_ne.2 (by omega)
              go_wp2_with fail
              go_meet
              case rel => exact ⟨a2, c2, l2, by omega, by omega, HB2'.out, HB1'.out, HO1.out.mono (Nat.le_refl _) (by have := HZ1.out; omega), HRD1.out, HR1.out, HC1.out, hzX⟩
          case rest =>
            obtain ⟨a3, c3, l3, hl3, hl3', hb2, hb1, ho, hrd, hr', hc', hz'⟩ := hcut
            have HB2 := Lib.hid hb2
            have HB1 := Lib.hid hb1
            have HO := Lib.hid ho
            have HRD := Lib.hid hrd
            have HR := Lib.hid hr'
            have HC := Lib.hid hc'
            clear hb2 hb1 ho hrd hr' hc' HB2' HB1' HR1 HC1 HO1 HRD1 HZ1 q0 q1 q2 q3
            go_wp2_with fail
            refine (odd_rdr rb l (p2 + 1) n wc HR.out (by omega) hn).mono ?_
            rintro e w5 ⟨bb, rfl, p3, hp5, hp6, hr5, hc5⟩
            have HB2a := Lib.hid (hc5.blk HB2.out (by omega))
            have HB1a := Lib.hid (hc5.blk HB1.out (by omega))
            have HR5 := Lib.hid hr5
            have HC5 := Lib.hid (HC.out.trans hc5)
            have HO5 := Lib.hid (HO.out.agr (hc5.agr (Nat.le_refl _) (fun k h1 h2 => by omega)))
            have HRD5 := Lib.hid (HRD.out.agr (hc5.agr hz' (fun k h1 h2 => by omega)))
            have HZ5 : Hid (wc.heap.size ≤ w5.heap.size) := hc5.size
            clear hc5 hr5 HB2 HB1 HO HRD HR HC
            obtain ⟨q0, q1, q2, q3⟩ := blk2 HB2a.out
            obtain ⟨t0, t1, t2, t3⟩ := blk2 HB1a.out
            cases bb
            · go_wp2_with fail
              obtain ⟨r0, r1, _, _⟩ := blk2 (blk_set (.slice a3 l3.length c3) (i := 1) (blk_set (.slice a l1.length c) (i := 0) HB1a.out))
              refine bodyPost_ret (v := .agg #[.slice a l1.length c, .slice a3 l3.length c3]) (by simp [results, Try.results32, go_sem, r0, r1]) rfl ⟨a, c, l1, a3, c3, l3, rfl, ?_, ?_, by omega, by omega, ⟨p3, by omega, by omega, ?_⟩, ?_⟩
              · exact (HRD5.out.agr (((Agr.refl _ _ _).set (by omega) _).set (by omega) _)).mono (by omega) (by have := HZ5.out; simp; omega)
              · exact (HO5.out.rd.agr (((Agr.refl _ _ _).set (by omega) _).set (by omega) _)).mono (by omega) (by have := HZ5.out; simp; omega)
              · exact HR5.out.agr (((Agr.refl _ _ _).set (by omega) _).set (by omega) _)
              · exact (HC5.out.set (.inr (by omega)) _).set (.inr (by omega)) _
            · go_wp2_with fail
              refine (pick_rdr rb l p3 3 _ HR5.out (by omega) (by omega)).mono ?_
              rintro e w6 ⟨v', rfl, v0', v1', hr6, hc6, hz6⟩
              have HB2b := Lib.hid (hc6.blk HB2a.out (by omega))
              have HB1b := Lib.hid (hc6.blk HB1a.out (by omega))
              have HR6 := Lib.hid hr6
              have HC6 := Lib.hid (HC5.out.trans hc6)
              have HO6 := Lib.hid (HO5.out.agr (hc6.agr HZ5.out (fun k h1 h2 => by omega)))
              have HRD6 := Lib.hid (HRD5.out.agr (hc6.agr (by have := HZ5.out; omega) (fun k h1 h2 => by omega)))
              have HZ6 := Lib.hid hz6
              clear hc6 hr6 hz6 HB2a HB1a HO5 HRD5 HR5 HC5 q0 q1 q2 q3 t0 t1 t2 t3
              obtain ⟨q0, q1, q2, q3⟩ := blk2 HB2b.out
              obtain ⟨t0, t1, t2, t3⟩ := blk2 HB1b.out
              have hlt6 : w.heap.size + 1 < w6.heap.size := by have := HZ6.out; have := HZ5.out; omega
              have hlt6' : w.heap.size < w6.heap.size := by omega
              have hwc6 : wc.heap.size ≤ w6.heap.size := by have := HZ6.out; have := HZ5.out; omega
              obtain rfl | rfl | rfl : v' = 0 ∨ v' = 1 ∨ v' = 2 := by omega
              · go_wp2_with fail
                obtain ⟨r0, r1, _, _⟩ := blk2 (blk_old (o := .cells #[] 3) (blk_set (.slice (some ⟨w6.heap.size, 0, none⟩) 0 0) (i := 1) (blk_set (.slice a l1.length c) (i := 0) (blk_set_other (i := 1) (k := w.heap.size + 1) (.slice (some ⟨w6.heap.size, 0, none⟩) 0 0) HB1b.out (by omega)))))
                refine bodyPost_ret (v := .agg #[.slice a l1.length c, .slice (some ⟨w6.heap.size, 0, none⟩) 0 0]) (by simp [results, Try.results32, go_sem, r0, r1]) rfl ⟨a, c, l1, some ⟨w6.heap.size, 0, none⟩, 0, [], rfl, ?_, fun i hi => by simp at hi, by omega, by simp, ⟨p3 + 1, by omega, by omega, ?_⟩, ?_⟩
                · exact (HRD6.out.agr (((((Agr.refl _ _ _).set (by omega) _).set (by omega) _).set (by omega) _).alloc (by simp; omega) _)).mono (by omega) (by simp; omega)
                · exact HR6.out.agr (((((Agr.refl _ _ _).set (by omega) _).set (by omega) _).set (by omega) _).alloc (by simp; omega) _)
                · exact (((HC6.out.set (.inr (by omega)) _).set (.inr (by omega)) _).set (.inr (by omega)) _).alloc _
              · obtain ⟨g, f, rfl, hg1, hg2, hrow, hgl, _, hf⟩ : ∃ g f, a3 = some ⟨g, 0, none⟩ ∧ X ≤ g ∧ g < wc.heap.size ∧ w6.rowIs g 3 c3 f ∧ l3.length ≤ c3 ∧ c3 ≤ maxLen ∧ ∀ i, i < l3.length → f i = .int .i64 (l3.getD i 0) := by
                  rcases HO6.out with ⟨_, h, _⟩ | h
                  · rw [h] at hl3; simp at hl3
                  · exact h
                have hd := hrow.cell (i := 0) (by omega)
                have hfz := hrow.frozen 0
                obtain ⟨x0, x1, x2, x3⟩ := blk2 (blk_set_other (i := 0) (k := g) (.int .i64 2) HB2b.out (by omega))
                obtain ⟨y0, y1, y2, y3⟩ := blk2 (blk_set_other (i := 0) (k := g) (.int .i64 2) HB1b.out (by omega))
                have Hrow := Lib.hid hrow
                have hcl0 : (0 : Int) < (l3.length : Int) := by omega
                clear hrow
                go_wp2_with fail
                obtain ⟨r0, r1, _, _⟩ := blk2 (blk_set (.slice (some ⟨g, 0, none⟩) l3.length c3) (i := 1) (blk_set (.slice a l1.length c) (i := 0) (blk_set_other (i := 0) (k := g) (.int .i64 2) HB1b.out (by omega))))
                have hlen : (l3.set 0 2).length = l3.length := by simp
                refine bodyPost_ret (v := .agg #[.slice a l1.length c, .slice (some ⟨g, 0, none⟩) l3.length c3]) (by simp [results, Try.results32, go_sem, r0, r1]) rfl ?_
                rw [← hlen]
                refine DrewS.of (p' := p3 + 1) ((HRD6.out.agr ((Agr.refl _ _ _).set (by omega) _)).mono (by omega) (by simp; omega)) ?_ (by omega) (by omega) (by omega) (by omega) (HR6.out.agr ((Agr.refl _ _ _).set (by omega) _)) (HC6.out.set (.inr (by omega)) _) hlt
                intro i hi
                refine ⟨g, 0, rfl, by omega, by simp; omega, ?_⟩
                rw [Nat.zero_add, (Hrow.out.set 0 _).cell (by omega)]
                by_cases hi0 : i = 0
                · subst hi0; rw [if_pos rfl]; simp [List.getD, show 0 < l3.length by omega]
                · rw [if_neg hi0, hf i (by omega)]; simp [List.getD, Ne.symm hi0]
              · have hmk : ∀ w, (Instr.makeSlice 22 (.int .i64 12) (.int .i64 12)).run Try.prog w = .ok (.slice (some ⟨w.heap.size, 0, none⟩) 12 12) (w.alloc (.cells (madeCells #[.int .i64 0] 12) 3)) :=
                  run_make_row' (P := Try.prog) 22 3 _ _ rfl Try.infoInt rfl .i64 .i64 12 (by omega) (by omega)
                go_wp2_with fail
                obtain ⟨r0, r1, _, _⟩ := blk2 (blk_old (o := .cells (madeCells #[.int .i64 0] 12) 3) (blk_set (.slice a3 l3.length c3) (i := 1) (blk_set (.slice (some ⟨w6.heap.size, 0, none⟩) 12 12) (i := 0) (blk_set_other (i := 0) (k := w.heap.size + 1) (.slice (some ⟨w6.heap.size, 0, none⟩) 12 12) HB1b.out (by omega)))))
                refine bodyPost_ret (v := .agg #[.slice (some ⟨w6.heap.size, 0, none⟩) 12 12, .slice a3 l3.length c3]) (by simp [results, Try.results32, go_sem, r0, r1]) rfl ⟨some ⟨w6.heap.size, 0, none⟩, 12, List.replicate 12 0, a3, c3, l3, by simp, ?_, ?_, by simp, by omega, ⟨p3 + 1, by omega, by omega, ?_⟩, ?_⟩
                · intro i hi
                  have hi' : i < 12 := by simpa using hi
                  refine ⟨w6.heap.size, 0, rfl, by omega, by simp, ?_⟩
                  rw [Nat.zero_add, World.cell?_alloc_at _ _ _ _ (by simp)]
                  rw [show (List.replicate 12 (0 : Int)).getD i 0 = 0 from by unfold List.getD; rw [List.getElem?_replicate]; split <;> rfl]
                  simp [madeCells, hi', Nat.mod_one]
                · exact (HO6.out.rd.agr (((((Agr.refl _ _ _).set (by omega) _).set (by omega) _).set (by omega) _).alloc (by simp; omega) _)).mono (by omega) (by simp; omega)
                · exact HR6.out.agr (((((Agr.refl _ _ _).set (by omega) _).set (by omega) _).set (by omega) _).alloc (by simp; omega) _)
                · exact (((HC6.out.set (.inr (by omega)) _).set (.inr (by omega)) _).set (.inr (by omega)) _).alloc _
set_option maxHeartbeats 400000 in
theorem drawStreamOk_any (a : Option Addr) (cap : Nat) (l : List Int) (w : World) (h : RdB w w.heap.size a l) (hl : l.length ≤ maxLen) (hcap : l.length ≤ cap) :
    Calls Try.prog 14 #[.slice a l.length cap] w (DrewS0 w) := by
  have HB := Lib.hid (h.agr2 (below_alloc w (.cells #[.slice none 0 0, .slice none 0 0] 27)) (Nat.le_refl _) (by simp))
  clear h
  go_enter Try.func14, Try.ntmps14
  go_wp2_with fail
  refine (open_any a cap l _ HB.out hl hcap).mono ?_
  rintro e w1 ⟨l', rfl, hr1, hb1, hz1⟩
  rw [World.size_alloc] at hr1
  have HB1 := Lib.hid (hb1.blk (alloc1 w (.cells #[.slice none 0 0, .slice none 0 0] 27)) (by simp))
  have HR1 := Lib.hid hr1
  have HH1 := Lib.hid (below_trans (below_alloc w _) hb1)
  clear hr1 hb1
  simp at hz1
  have HZ1 := Lib.hid hz1
  clear hz1
  go_wp2_with fail
  refine (l20Stream_any _ l' 0 3 w1 HR1.out (by omega) (by omega)).mono ?_
  rintro e w2 ⟨a1, c1, l1, a2, c2, l2, rfl, r1, r2, hl1, hl2, _, hc2⟩
  have HB2 := Lib.hid (hc2.blk HB1.out (by simp))
  have HH2 := Lib.hid (HH1.out.trans (hc2.below (D := w.heap.size) (fun k hk => by subst hk; simp) (by have := HZ1.out; omega)))
  have HR1' := Lib.hid r1
  have HR2' := Lib.hid r2
  have hz2 := hc2.size
  clear r1 r2 hc2
  obtain ⟨q0, q1, q2, q3⟩ := blk2 HB2.out
  go_wp2_with fail
  obtain ⟨r0, r1, _, _⟩ := blk2 (blk_set (.slice a2 l2.length c2) (i := 1) (blk_set (.slice a1 l1.length c1) (i := 0) HB2.out))
  refine bodyPost_ret (v := .agg #[.slice a1 l1.length c1, .slice a2 l2.length c2]) (by simp [results, Try.results14, go_sem, r0, r1]) rfl ⟨a1, c1, l1, a2, c2, l2, rfl, ?_, ?_, hl1, hl2, (HH2.out.setCell (by simp) _).setCell (by simp) _⟩
  · exact (HR1'.out.agr (((Agr.refl _ _ _).set (by have := HZ1.out; omega) _).set (by have := HZ1.out; omega) _)).mono (by have := HZ1.out; omega) (by simp)
  · exact (HR2'.out.agr (((Agr.refl _ _ _).set (by have := HZ1.out; omega) _).set (by have := HZ1.out; omega) _)).mono (by have := HZ1.out; omega) (by simp)

set_option maxHeartbeats 400000 in
theorem alive_any (w : World) : Calls Try.prog 15 #[] w fun e w' => e = .returned (.bool true) ∧ w = w' := by
  go_enter Try.func15, Try.ntmps15
  go_wp2
  go_ret
  exact ⟨ret_bool (by decide), rfl⟩
end Go.Proofs.Ytkaekaofmaljoaa
