/- Walks of the functions by which the laws draw systems: what comes is a short slice of sentences in new memory. -/
import Derived.Deep.RegionLaw
import Derived.Deep.Cut
import Derived.Test.YtfjodcfbhpglhaaM4
import Derived.Test.YtfjodcfbhpglhaaM1
namespace Go.Proofs.Ytfjodcfbhpglhaa
open Go.RowKit Go.Hyp Go.Deep

/-- A drawn system: a short slice of sentences in new memory; the reader at most K further; all else as it was. -/
def DrewY (rb R : Nat) (l : List Int) (p K : Nat) (w : World) (e : Ending) (w' : World) : Prop :=
  ∃ a c s, e = .returned (.slice a s.length c) ∧ RdY w' w.heap.size w'.heap.size a s ∧ s.length ≤ 3 ∧ (∀ x ∈ s, x.1.length ≤ 3) ∧ (∃ p', p ≤ p' ∧ p' ≤ p + K ∧ Rdr w' rb R l p') ∧ Chg (· = rb) w w'

theorem slice_len {a : Option Addr} {c n m : Nat} (h : m = n) : Value.slice a n c = Value.slice a m c := by rw [h]

theorem Try.infoSaid : (Try.prog.info? 50).map (fun i => (i.zero, i.size, i.bytes)) = some (some (.agg #[.slice none 0 0, .int .i64 0]), 2, 32) := by kernel_rfl

set_option maxRecDepth 16000 in
set_option maxHeartbeats 1600000 in
theorem l20System_any (rb : Nat) (l : List Int) (p n : Nat) (w : World) (hr : Rdr w rb 74 l p) (hp : p ≤ 524288) (hn : n ≤ 1048576) :
    Calls Try.prog 35 #[.pointer (some ⟨rb, 0, none⟩), .int .i64 n] w (DrewY rb 74 l p 30 w) := by
  have hlt := hr.lt
  have HR := Lib.hid (hr.below (below_alloc w (.cells #[] 50)) hlt)
  have HC := Lib.hid ((Chg.refl (· = rb) w).alloc (.cells #[] 50))
  clear hr
  go_enter Try.func35, Try.ntmps35
  go_wp2_with fail
  refine (pick_rdr rb l p 3 _ HR.out (by omega) (by omega)).mono ?_
  rintro e w1 ⟨v, rfl, v0, v1, hr1, hc1, hz1⟩
  obtain ⟨N0, rfl⟩ := Int.eq_ofNat_of_zero_le v0
  have hN0 : N0 ≤ 2 := by omega
  obtain ⟨N, hN⟩ : ∃ N : Nat, N = 1 + N0 := ⟨_, rfl⟩
  have hN1 : 1 ≤ N := by omega
  have hN3 : N ≤ 3 := by omega
  have hNw : (1 : Int) + (N0 : Int) = (N : Int) := by omega
  have HO1 := Lib.hid ((OwY_empty w 3 50).agr (hc1.agr (by simp) (fun k h1 h2 => by omega)))
  have HR1 := Lib.hid hr1
  have HC1 := Lib.hid (HC.out.trans hc1)
  simp at hz1
  have HZ1 := Lib.hid hz1
  clear hc1 hr1 hz1 v1 hN
  go_wp2_with fail
  go_loopw [5, 7] (fun o i wr => ∃ (st : List (List Int × Int)) (a : Option Addr) (c p' : Nat), i = .int .i64 st.length ∧ o = .slice a st.length c ∧ st.length ≤ N ∧ (∀ x ∈ st, x.1.length ≤ 3) ∧ OwY wr 3 50 w.heap.size wr.heap.size a c st ∧
      p ≤ p' ∧ p' + 4 * (N - st.length) ≤ p + 13 ∧ Rdr wr rb 74 l p' ∧ Chg (· = rb) w wr) (fun _ i _ => N - (intOf i).toNat)
  case atStart => exact ⟨[], _, 0, p + 1, rfl, rfl, Nat.zero_le _, fun x hx => by simp at hx, HO1.out.mono (Nat.le_refl _) (by have := HZ1.out; omega), by omega, by simp; omega, HR1.out, HC1.out⟩
  case round =>
    obtain ⟨st, a, c, p', rfl, rfl, hst, hnm, ho, hp1, hp2, hr', hc'⟩ := hrel
    have HO := Lib.hid ho
    have HNM := Lib.hid hnm
    have HR' := Lib.hid hr'
    have HC' := Lib.hid hc'
    have hwr : w.heap.size ≤ wr.heap.size := hc'.size
    clear ho hnm hr' hc' HO1 HR1 HC1 HZ1 HR HC
    by_cases hlt' : st.length < N
    · have HRa := Lib.hid (HR'.out.below (below_alloc wr (.cells #[.int .i64 0, .int .i64 0, .int .i64 0, .int .i64 1, .int .i64 2, .int .i64 3] 3)) (by omega))
      go_wp2_with fail
      refine (pick_rdr rb l p' 6 _ HRa.out (by omega) (by omega)).mono ?_
      rintro e w2 ⟨v, rfl, v0', v1', hr2, hc2, hz2⟩
      obtain ⟨nv, rfl⟩ := Int.eq_ofNat_of_zero_le v0'
      have hnv6 : (nv : Int) < 6 := by omega
      have hb2 := hc2.blk (alloc1 wr _) (by omega)
      obtain ⟨cv, hcv0, hcv3, hcv⟩ : ∃ cv : Int, 0 ≤ cv ∧ cv ≤ 3 ∧ w2.cell? ⟨wr.heap.size, nv, none⟩ = some (.int .i64 cv) := by
        have h6 : nv = 0 ∨ nv = 1 ∨ nv = 2 ∨ nv = 3 ∨ nv = 4 ∨ nv = 5 := by omega
        rcases h6 with rfl | rfl | rfl | rfl | rfl | rfl
        · exact ⟨0, by omega, by omega, blk_cell hb2 rfl⟩
        · exact ⟨0, by omega, by omega, blk_cell hb2 rfl⟩
        · exact ⟨0, by omega, by omega, blk_cell hb2 rfl⟩
        · exact ⟨1, by omega, by omega, blk_cell hb2 rfl⟩
        · exact ⟨2, by omega, by omega, blk_cell hb2 rfl⟩
        · exact ⟨3, by omega, by omega, blk_cell hb2 rfl⟩
      simp at hz2
      have HO2 := Lib.hid ((HO.out.below (below_alloc wr _) (Nat.le_refl _)).agr (hc2.agr (by simp) (fun k h1 h2 => by omega)))
      have HB := Lib.hid ((below_alloc w2 (.cells #[.slice none 0 0, .int .i64 cv] 50)))
      have HX := Lib.hid (alloc1 w2 (.cells #[.slice none 0 0, .int .i64 cv] 50))
      have HR2 := Lib.hid (hr2.below HB.out (by omega))
      have HC2 := Lib.hid (((HC'.out.alloc _).trans hc2).alloc (.cells #[.slice none 0 0, .int .i64 cv] 50))
      have HZ2 := Lib.hid hz2
      clear hb2 hr2 hc2 hz2 HRa HR' HC'
      have hwo : wr.heap.size < w2.heap.size := by have := HZ2.out; omega
      generalize hWe : wr.heap.size = W0 at *
      clear hWe
      go_wp2_with fail
      go_loopw [9] (fun j wi => ∃ (l1 : List Int) (a1 : Option Addr) (c1 p'' : Nat), j = .int .i64 l1.length ∧ l1.length ≤ N ∧ wi.heap[w2.heap.size]? = some (.cells #[.slice a1 l1.length c1, .int .i64 cv] 50 (0, 0)) ∧ OwI wi 3 (w2.heap.size + 1) wi.heap.size a1 c1 l1 ∧
          OwY wi 3 50 w.heap.size W0 a c st ∧ p ≤ p'' ∧ p'' + 4 * (N - st.length) ≤ p + 14 + l1.length ∧ Rdr wi rb 74 l p'' ∧ Chg (· = rb) w wi ∧ w2.heap.size < wi.heap.size) (fun j _ => N - (intOf j).toNat)
      case atStart => exact ⟨[], none, 0, p' + 1, rfl, Nat.zero_le _, HX.out, .inl ⟨rfl, rfl, rfl⟩, (HO2.out.below HB.out (by omega)), by omega, by simp; omega, HR2.out, HC2.out, by simp⟩
      case round =>
        obtain ⟨l1, a1, c1, p2, rfl, hl1, hb, ho1, hoY, hp3, hp4, hr', hc', hz'⟩ := hrel
        have HO1 := Lib.hid ho1
        have HOY := Lib.hid hoY
        have HBx := Lib.hid hb
        have HR' := Lib.hid hr'
        have HC' := Lib.hid hc'
        obtain ⟨q0, q1, q2, q3⟩ := blk2 hb
        clear ho1 hoY hb hr' hc' HO HO2 HB HX HR2 HC2 HZ2
        by_cases hj : l1.length < N
        · go_wp2_with fail
          go_region_law (first
              | (refine step_appI Try.underlying24 Try.infoInt _ (by rfl) _ _ (by rfl) (w2.heap.size + 1) wr.heap.size a1 c1 l1 (by rfl) (by exact HO3.out.agr ((Agr.refl _ _ _).alloc (by have := HZ3.out; omega) _)) (by simp; have := HZ3.out; omega) ⟨w3.heap.size, 0, none⟩ v (by rfl) (by exact new_cell _ _ _) (by omega) ?_
                 intro g cap' w4 hown4 hgrow hat hlt4
                 have hne := HO1.out.not_block (k := w2.heap.size) (by omega)
                 have hb4 := grown_blk hgrow (blk_old B3.out) hne
                 obtain ⟨q0, q1, q2, q3⟩ := blk2 hb4
                 have B4 := Lib.hid hb4
                 have HO4 := Lib.hid hown4
                 have hz4 : wr.heap.size + 1 ≤ w4.heap.size := by have := hgrow.size; simp at this; have := HZ3.out; omega
                 have HC4 := Lib.hid ((HC3.out.alloc _).grown hgrow (fun k hk => .inr (by have := HO1.out.block_in hk; omega)))
                 have HAG : Hid (Agr 0 w2.heap.size w3 w4) := fun k h1 h2 => (hgrow.block k (by have := HZ3.out; simp; omega) (fun e => by have := HO1.out.block_in e.symm; omega)).trans (Below.heap_alloc _ _ _ (by have := HZ3.out; omega))
                 clear hb4 hown4 hgrow hne)
              | (go_simp
                 go_at_call 50
                 refine (pick_rdr rb l p2 2 _ (by exact HR'.out) (by omega) (by omega)).mono ?_
                 rintro e w3 ⟨v, rfl, v0, v1, hr3, hc3, hz3⟩
                 replace hc3 := hc3.undrew
                 have hz3' : w3.heap.size = wr.heap.size := hz3
                 have hb3 := hc3.blk HBx.out (by omega)
                 have hlt3 : w2.heap.size < w3.heap.size := by omega
                 obtain ⟨q0, q1, q2, q3⟩ := blk2 hb3
                 have B3 := Lib.hid hb3
                 have HR3 := Lib.hid hr3
                 have HC3 := Lib.hid (HC'.out.trans hc3)
                 have HO3 := Lib.hid (HO1.out.agr (hc3.agr (Nat.le_refl _) (fun k h1 h2 => by omega)))
                 have HOY3 := Lib.hid (HOY.out.agr (hc3.agr (by omega) (fun k h1 h2 => by omega)))
                 have HZ3 := Lib.hid hz3'
                 clear hr3 hc3 hb3 hz3 hz3'))
          all_goals
            go_wp2_with fail
            go_roundw
            case rel =>
              have hl : (l1 ++ [v]).length = l1.length + 1 := by simp
              refine ⟨l1 ++ [v], some ⟨g, 0, none⟩, cap', p2 + 1, int_eq (by omega), by omega, by rw [hl]; exact blk_set _ B4.out, ?_, (HOY3.out.agr (HAG.out.mono (by omega) (by omega))).agr ((Agr.refl _ _ _).set (by omega) _), by omega, by omega, ?_, HC4.out.set (.inr (by omega)) _, by simp; omega⟩
              · exact (HO4.out.agr ((Agr.refl _ _ _).set (by omega) _)).mono (Nat.le_refl _) (by simp)
              · exact (HR3.out.agr (HAG.out.mono (by omega) (by omega))).agr ((Agr.refl _ _ _).set (by omega) _)
            case measure => simp [intOf]; omega
        · have hfin : l1.length ≤ 3 := by omega
          go_wp2_with (at_builtin; go_loud (refine wpList_appY Try.underlying28 Try.infoSaid rfl _ rfl _ _ rfl w.heap.size W0 a c st rfl (HOY.out.agr ((Agr.refl _ _ _).alloc (by omega) _)) (by simp; omega) (by simp; omega) ⟨wr.heap.size, 0, none⟩ a1 c1 l1 cv rfl (by rw [show ((⟨wr.heap.size, 0, none⟩ : Addr).add 0) = ⟨wr.heap.size, 0, none⟩ from rfl, World.cell?_alloc_at _ _ _ _ rfl]; rfl) (by rw [show ((⟨wr.heap.size, 0, none⟩ : Addr).add 1) = ⟨wr.heap.size, 1, none⟩ from rfl, World.cell?_alloc_at _ _ _ _ rfl]; rfl) (w2.heap.size + 1) wr.heap.size (HO1.out.agr ((Agr.refl _ _ _).alloc (Nat.le_refl _) _)) (by omega) (by omega) (by simp) (by omega) ?_); intro g cap' w5 hown5 hgrow hat hlt5)
          have HO5 := Lib.hid hown5
          have HC5 := Lib.hid ((HC'.out.alloc (.cells #[.slice a1 l1.length c1, .int .i64 cv] 50)).grown hgrow (fun k hk => .inr (by have := HOY.out.block_in hk; omega)))
          have HR5 := Lib.hid (HR'.out.agr (fun k h1 h2 => ((hgrow.block k (by simp; omega) (fun e => by have := HOY.out.block_in e.symm; omega)).trans (Below.heap_alloc _ _ _ (by omega)))))
          clear hown5 hgrow HOY HO1 HC' HR' HBx
          go_wp2_with fail
          go_roundw
          case rel =>
            have hl : (st ++ [(l1, cv)]).length = st.length + 1 := by simp
            refine ⟨st ++ [(l1, cv)], some ⟨g, 0, none⟩, cap', p2, int_eq (by omega), by rw [hl], by omega, fun x hx => ?_, HO5.out, by omega, by omega, HR5.out, HC5.out⟩
            rcases List.mem_append.1 hx with h | h
            · exact HNM.out x h
            · simp at h; subst h; exact hfin
          case measure => simp [intOf]; omega
    · have hN' : st.length = N := by omega
      have HN' := Lib.hid hN'
      clear hN'
      by_cases hN2 : 1 < N
      · go_wp2_with fail
        refine (pick_rdr rb l p' 3 wr HR'.out (by omega) (by omega)).mono ?_
        rintro e w3 ⟨v, rfl, v30, v31, hr3, hc3, hz3⟩
        have HO3 := Lib.hid (HO.out.agr (hc3.agr (Nat.le_refl _) (fun k h1 h2 => by omega)))
        have HR3 := Lib.hid hr3
        have HC3 := Lib.hid (HC'.out.trans hc3)
        have HZ3 := Lib.hid hz3
        clear hr3 hc3 hz3 HO HR' HC'
        by_cases hv : v = 0
        · have hvb : (v == 0) = true := beq_iff_eq.2 hv
          have Hv := Lib.hid hv
          clear hv
          obtain ⟨g, an, cn, rfl, hg1, hg2, hd0, hd1, hfz, hglt, hon⟩ := HO3.out.at 0 (by have := HN'.out; omega)
          have HON := Lib.hid hon
          clear hon
          have hi0 : (0 : Int) < (st.length : Int) := by have := HN'.out; omega
          have hj0 : 0 < st.length := by have := HN'.out; omega
          have hj1 : 1 < st.length := by have := HN'.out; omega
          have hi1 : (1 : Int) < (st.length : Int) := by have := HN'.out; omega
          go_upto_region 13 with (fail)
          go_cut [] from 48 (fun wc => ∃ st' : List (List Int × Int), st'.length = N ∧ (∀ x ∈ st', x.1.length ≤ 3) ∧ OwY wc 3 50 w.heap.size wc.heap.size (some ⟨g, 0, none⟩) c st' ∧ Rdr wc rb 74 l (p' + 1) ∧ Chg (· = rb) w wc)
          case first =>
            obtain ⟨g', an1, cn1, hge, _, _, hd2, hd3, _, _, _⟩ := HO3.out.at 1 (by have := HN'.out; omega)
            cases hge
            have hlen0 : st[0].1.length ≤ 3 := HNM.out _ (List.getElem_mem _)
            generalize st[0] = s0 at hd0 hd1 HON hlen0
            generalize st[1] = s1 at hd2 hd3
            obtain ⟨nm, cd⟩ := s0
            simp at hd0 hd1 hd2 hd3 hlen0
            have HON' : Hid (OwI w3 3 w.heap.size wr.heap.size an cn nm) := HON.out
            go_region_law (refine step_appIs Try.underlying24 Try.infoInt _ (by rfl) _ _ (by rfl) w3.heap.size (w3.heap.size + 1) (some ⟨w3.heap.size, 0, none⟩) 0 [] (by rfl) (by exact OwI_empty w3 3) (by simp) w.heap.size wr.heap.size an cn nm (by rfl) (by exact HON'.out.rd.agr (((Agr.refl _ _ _).alloc (by have := HZ3.out; omega) _).drew)) (by exact HON'.out.nilcap) (by simp; omega) ?_
                           intro a4 c4 w4 hown4 hgrow hat
                           have hbk : blockOf (some (⟨w3.heap.size, 0, none⟩ : Addr)) = some w3.heap.size := rfl
                           have HAG : Hid (Agr 0 w3.heap.size w3 w4) := fun k h1 h2 => (hgrow.block k (by simp; omega) (by rw [hbk]; simp; omega)).trans (Below.heap_alloc _ _ _ h2)
                           have hz4 : w3.heap.size + 1 ≤ w4.heap.size := by have := hgrow.size; simpa using this
                           have e2 : w4.cell? ⟨g, 2, none⟩ = some (.slice an1 s1.1.length cn1) := by rw [World.cell?_of_block (w := w3) (HAG.out g (by omega) hglt)]; exact hd2
                           have e3 : w4.cell? ⟨g, 3, none⟩ = some (.int .i64 s1.2) := by rw [World.cell?_of_block (w := w3) (HAG.out g (by omega) hglt)]; exact hd3
                           have e4 : w4.cell? ⟨g, 1, none⟩ = some (.int .i64 cd) := by rw [World.cell?_of_block (w := w3) (HAG.out g (by omega) hglt)]; exact hd1
                           have e5 : ∀ o, w4.frozen? ⟨g, o, none⟩ = false := fun o => by rw [World.frozen?_of_block (w := w3) (HAG.out g (by omega) hglt)]; exact hfz o
                           have HO4 := Lib.hid hown4
                           have HC4 := Lib.hid ((HC3.out.alloc _).drew.grown hgrow (fun k hk => .inr (by rw [hbk] at hk; cases hk; exact HC3.out.size)))
                           clear hown4 hgrow)
            all_goals
              go_wp2_with fail
              go_meet
              case rel =>
                have hA : OwY w4 3 50 w.heap.size wr.heap.size (some ⟨g, 0, none⟩) c st := HO3.out.agr (HAG.out.mono (by omega) (by have := HZ3.out; omega))
                have hS := hA.setSaid 1 hj1 a4 c4 ([] ++ nm) cd wr.heap.size w4.heap.size (HO4.out.mono (by have := HZ3.out; omega) (Nat.le_refl _)) (Nat.le_refl _) (by omega) (by have := HZ3.out; omega)
                refine ⟨st.set 1 ([] ++ nm, cd), by simp; exact HN'.out, fun x hx => ?_, hS.mono (Nat.le_refl _) (by simp), ?_, ?_⟩
                · rcases List.mem_or_eq_of_mem_set hx with h | h
                  · exact HNM.out x h
                  · subst h; simpa using hlen0
                · exact (((HR3.out.agr (HAG.out.mono (by omega) (by omega))).agr ((Agr.refl _ _ _).set (by omega) _)).agr ((Agr.refl _ _ _).set (by omega) _))
                · exact (HC4.out.set (.inr (by omega)) _).set (.inr (by omega)) _
          case rest =>
            obtain ⟨st', hlen, hnm9, ho9, hr9, hc9⟩ := hcut
            obtain ⟨W9, rfl⟩ : ∃ W, W = wc := ⟨_, rfl⟩
            have hlen9 := Lib.hid (show st'.length = st.length by have := HN'.out; omega)
            clear HO3 HR3 HC3 HZ3 HON hd0 hd1 hg1 hg2 hglt hfz HNM Hv hvb
            obtain ⟨st9, rfl⟩ : ∃ W, W = st' := ⟨_, rfl⟩
            have HO9 := Lib.hid ho9
            have HNM9 := Lib.hid hnm9
            have HR9 := Lib.hid hr9
            have HC9 := Lib.hid hc9
            have hz9 : w.heap.size ≤ W9.heap.size := hc9.size
            have hs9 : 0 < st9.length ∧ st9.length ≤ 3 := by first | (have := HN'.out; omega) | (have := HN'.out; have := hlen9.out; omega)
            clear ho9 hnm9 hr9 hc9
            go_wp2_with fail
            refine (odd_rdr rb l _ n W9 HR9.out (by omega) hn).mono ?_
            rintro e w5 ⟨bb, rfl, p5, hp5, hp5', hr5, hc5⟩
            have HR5 := Lib.hid hr5
            have HC5 := Lib.hid (HC9.out.trans hc5)
            have HO5 := Lib.hid ((HO9.out.agr (hc5.agr (Nat.le_refl _) (fun k h1 h2 => by omega))).mono (Nat.le_refl _) hc5.size)
            have hz5 : w.heap.size ≤ w5.heap.size := by have := hc5.size; omega
            clear hr5 hc5 HO9 HR9 HC9
            cases bb
            · go_wp2_with fail
              go_ret
              exact ⟨_, _, st9, congrArg Ending.returned (slice_len (by first | rfl | (have := hlen9.out; omega))), HO5.out.rd, by omega, HNM9.out, ⟨p5, by omega, by omega, HR5.out⟩, HC5.out⟩
            · go_wp2_with fail
              refine (pick_rdr rb l _ 3 w5 HR5.out (by omega) (by omega)).mono ?_
              rintro e w6 ⟨v6, rfl, v60, v61, hr6, hc6, hz6⟩
              have HR6 := Lib.hid hr6
              have HC6 := Lib.hid (HC5.out.trans hc6)
              have HO6 := Lib.hid ((HO5.out.agr (hc6.agr (Nat.le_refl _) (fun k h1 h2 => by omega))).mono (Nat.le_refl _) hc6.size)
              have hz6' : w.heap.size ≤ w6.heap.size := by have := hc6.size; omega
              have hlt6 := hr6.lt
              clear hr6 hc6 HO5 HR5 HC5 hz6
              by_cases h60 : v6 = 0
              · subst h60
                go_wp2_with fail
                go_ret
                exact ⟨_, _, [], rfl, fun i hi => by simp at hi, by simp, by simp, ⟨p5 + 1, by omega, by omega, HR6.out.below (below_alloc _ _) hlt6⟩, HC6.out.alloc _⟩
              · obtain ⟨g9, an9, cn9, hge, hg1', hg2', hd0', hd1', hfz', hglt', _⟩ := HO6.out.at 0 (by omega)
                cases hge
                simp at hd0' hd1'
                by_cases h61 : v6 = 1
                · subst h61
                  go_wp2_with fail
                  go_ret
                  have hS := HO6.out.setCode 0 (by omega) 4
                  refine ⟨_, _, st9.set 0 (st9[0].1, 4), congrArg Ending.returned (slice_len (by first | (simp; done) | (have := hlen9.out; simp; omega))), (hS.rd.mono (Nat.le_refl _) (by simp)), by simp; omega, fun x hx => ?_, ⟨p5 + 1, by omega, by omega, HR6.out.agr ((Agr.refl _ _ _).set (by omega) _)⟩, HC6.out.set (.inr (by omega)) _⟩
                  rcases List.mem_or_eq_of_mem_set hx with h | h
                  · exact HNM9.out x h
                  · subst h; show st9[0].1.length ≤ 3; exact HNM9.out _ (List.getElem_mem _)
                · have e0 : (v6 == 0) = false := beq_eq_false_iff_ne.2 h60
                  have e1 : (v6 == 1) = false := beq_eq_false_iff_ne.2 h61
                  go_wp2_with fail
                  go_ret
                  have hS := HO6.out.noNames 0 (by omega) (some ⟨w6.heap.size, 0, none⟩) 0
                  refine ⟨_, _, st9.set 0 ([], st9[0].2), congrArg Ending.returned (slice_len (by first | (simp; done) | (have := hlen9.out; simp; omega))), ((hS.mono (Nat.le_refl _) (by simp)).below (below_alloc _ (.cells #[] 3)) (Nat.le_refl _)).mono (Nat.le_refl _) (by simp), by simp; omega, fun x hx => ?_, ⟨p5 + 1, by omega, by omega, (HR6.out.agr ((Agr.refl _ _ _).set (by omega) _)).below (below_alloc _ _) (by simpa using hlt6)⟩, (HC6.out.set (.inr (by omega)) _).alloc _⟩
                  rcases List.mem_or_eq_of_mem_set hx with h | h
                  · exact HNM9.out x h
                  · subst h; simp
        · have hvb : (v == 0) = false := beq_eq_false_iff_ne.2 hv
          have hi0 : (0 : Int) < (st.length : Int) := by have := HN'.out; omega
          have hj0 : 0 < st.length := by have := HN'.out; omega
          have hlen9 := Lib.hid (show st.length = st.length from rfl)
          have ho9 := HO3.out.mono (Nat.le_refl _) (show wr.heap.size ≤ w3.heap.size by have := HZ3.out; omega)
          have hnm9 := HNM.out
          have hr9 := HR3.out
          have hc9 := HC3.out
          clear HO3 HR3 HC3 HZ3 HNM hv
          obtain ⟨W9, rfl⟩ : ∃ W, W = w3 := ⟨_, rfl⟩
          obtain ⟨st9, rfl⟩ : ∃ W, W = st := ⟨_, rfl⟩
          have HO9 := Lib.hid ho9
          have HNM9 := Lib.hid hnm9
          have HR9 := Lib.hid hr9
          have HC9 := Lib.hid hc9
          have hz9 : w.heap.size ≤ W9.heap.size := hc9.size
          have hs9 : 0 < st9.length ∧ st9.length ≤ 3 := by first | (have := HN'.out; omega) | (have := HN'.out; have := hlen9.out; omega)
          clear ho9 hnm9 hr9 hc9
          go_wp2_with fail
          refine (odd_rdr rb l _ n W9 HR9.out (by omega) hn).mono ?_
          rintro e w5 ⟨bb, rfl, p5, hp5, hp5', hr5, hc5⟩
          have HR5 := Lib.hid hr5
          have HC5 := Lib.hid (HC9.out.trans hc5)
          have HO5 := Lib.hid ((HO9.out.agr (hc5.agr (Nat.le_refl _) (fun k h1 h2 => by omega))).mono (Nat.le_refl _) hc5.size)
          have hz5 : w.heap.size ≤ w5.heap.size := by have := hc5.size; omega
          clear hr5 hc5 HO9 HR9 HC9
          cases bb
          · go_wp2_with fail
            go_ret
            exact ⟨_, _, st9, congrArg Ending.returned (slice_len (by first | rfl | (have := hlen9.out; omega))), HO5.out.rd, by omega, HNM9.out, ⟨p5, by omega, by omega, HR5.out⟩, HC5.out⟩
          · go_wp2_with fail
            refine (pick_rdr rb l _ 3 w5 HR5.out (by omega) (by omega)).mono ?_
            rintro e w6 ⟨v6, rfl, v60, v61, hr6, hc6, hz6⟩
            have HR6 := Lib.hid hr6
            have HC6 := Lib.hid (HC5.out.trans hc6)
            have HO6 := Lib.hid ((HO5.out.agr (hc6.agr (Nat.le_refl _) (fun k h1 h2 => by omega))).mono (Nat.le_refl _) hc6.size)
            have hz6' : w.heap.size ≤ w6.heap.size := by have := hc6.size; omega
            have hlt6 := hr6.lt
            clear hr6 hc6 HO5 HR5 HC5 hz6
            by_cases h60 : v6 = 0
            · subst h60
              go_wp2_with fail
              go_ret
              exact ⟨_, _, [], rfl, fun i hi => by simp at hi, by simp, by simp, ⟨p5 + 1, by omega, by omega, HR6.out.below (below_alloc _ _) hlt6⟩, HC6.out.alloc _⟩
            · obtain ⟨g9, an9, cn9, hge, hg1', hg2', hd0', hd1', hfz', hglt', _⟩ := HO6.out.at 0 (by omega)
              cases hge
              simp at hd0' hd1'
              by_cases h61 : v6 = 1
              · subst h61
                go_wp2_with fail
                go_ret
                have hS := HO6.out.setCode 0 (by omega) 4
                refine ⟨_, _, st9.set 0 (st9[0].1, 4), congrArg Ending.returned (slice_len (by first | (simp; done) | (have := hlen9.out; simp; omega))), (hS.rd.mono (Nat.le_refl _) (by simp)), by simp; omega, fun x hx => ?_, ⟨p5 + 1, by omega, by omega, HR6.out.agr ((Agr.refl _ _ _).set (by omega) _)⟩, HC6.out.set (.inr (by omega)) _⟩
                rcases List.mem_or_eq_of_mem_set hx with h | h
                · exact HNM9.out x h
                · subst h; show st9[0].1.length ≤ 3; exact HNM9.out _ (List.getElem_mem _)
              · have e0 : (v6 == 0) = false := beq_eq_false_iff_ne.2 h60
                have e1 : (v6 == 1) = false := beq_eq_false_iff_ne.2 h61
                go_wp2_with fail
                go_ret
                have hS := HO6.out.noNames 0 (by omega) (some ⟨w6.heap.size, 0, none⟩) 0
                refine ⟨_, _, st9.set 0 ([], st9[0].2), congrArg Ending.returned (slice_len (by first | (simp; done) | (have := hlen9.out; simp; omega))), ((hS.mono (Nat.le_refl _) (by simp)).below (below_alloc _ (.cells #[] 3)) (Nat.le_refl _)).mono (Nat.le_refl _) (by simp), by simp; omega, fun x hx => ?_, ⟨p5 + 1, by omega, by omega, (HR6.out.agr ((Agr.refl _ _ _).set (by omega) _)).below (below_alloc _ _) (by simpa using hlt6)⟩, (HC6.out.set (.inr (by omega)) _).alloc _⟩
                rcases List.mem_or_eq_of_mem_set hx with h | h
                · exact HNM9.out x h
                · subst h; simp
      · have hi0 : (0 : Int) < (st.length : Int) := by have := HN'.out; omega
        have hj0 : 0 < st.length := by have := HN'.out; omega
        have hlen9 := Lib.hid (show st.length = st.length from rfl)
        have ho9 := HO.out
        have hnm9 := HNM.out
        have hr9 := HR'.out
        have hc9 := HC'.out
        clear HO HNM HR' HC'
        obtain ⟨W9, rfl⟩ : ∃ W, W = wr := ⟨_, rfl⟩
        obtain ⟨st9, rfl⟩ : ∃ W, W = st := ⟨_, rfl⟩
        have HO9 := Lib.hid ho9
        have HNM9 := Lib.hid hnm9
        have HR9 := Lib.hid hr9
        have HC9 := Lib.hid hc9
        have hz9 : w.heap.size ≤ W9.heap.size := hc9.size
        have hs9 : 0 < st9.length ∧ st9.length ≤ 3 := by first | (have := HN'.out; omega) | (have := HN'.out; have := hlen9.out; omega)
        clear ho9 hnm9 hr9 hc9
        go_wp2_with fail
        refine (odd_rdr rb l _ n W9 HR9.out (by omega) hn).mono ?_
        rintro e w5 ⟨bb, rfl, p5, hp5, hp5', hr5, hc5⟩
        have HR5 := Lib.hid hr5
        have HC5 := Lib.hid (HC9.out.trans hc5)
        have HO5 := Lib.hid ((HO9.out.agr (hc5.agr (Nat.le_refl _) (fun k h1 h2 => by omega))).mono (Nat.le_refl _) hc5.size)
        have hz5 : w.heap.size ≤ w5.heap.size := by have := hc5.size; omega
        clear hr5 hc5 HO9 HR9 HC9
        cases bb
        · go_wp2_with fail
          go_ret
          exact ⟨_, _, st9, congrArg Ending.returned (slice_len (by first | rfl | (have := hlen9.out; omega))), HO5.out.rd, by omega, HNM9.out, ⟨p5, by omega, by omega, HR5.out⟩, HC5.out⟩
        · go_wp2_with fail
          refine (pick_rdr rb l _ 3 w5 HR5.out (by omega) (by omega)).mono ?_
          rintro e w6 ⟨v6, rfl, v60, v61, hr6, hc6, hz6⟩
          have HR6 := Lib.hid hr6
          have HC6 := Lib.hid (HC5.out.trans hc6)
          have HO6 := Lib.hid ((HO5.out.agr (hc6.agr (Nat.le_refl _) (fun k h1 h2 => by omega))).mono (Nat.le_refl _) hc6.size)
          have hz6' : w.heap.size ≤ w6.heap.size := by have := hc6.size; omega
          have hlt6 := hr6.lt
          clear hr6 hc6 HO5 HR5 HC5 hz6
          by_cases h60 : v6 = 0
          · subst h60
            go_wp2_with fail
            go_ret
            exact ⟨_, _, [], rfl, fun i hi => by simp at hi, by simp, by simp, ⟨p5 + 1, by omega, by omega, HR6.out.below (below_alloc _ _) hlt6⟩, HC6.out.alloc _⟩
          · obtain ⟨g9, an9, cn9, hge, hg1', hg2', hd0', hd1', hfz', hglt', _⟩ := HO6.out.at 0 (by omega)
            cases hge
            simp at hd0' hd1'
            by_cases h61 : v6 = 1
            · subst h61
              go_wp2_with fail
              go_ret
              have hS := HO6.out.setCode 0 (by omega) 4
              refine ⟨_, _, st9.set 0 (st9[0].1, 4), congrArg Ending.returned (slice_len (by first | (simp; done) | (have := hlen9.out; simp; omega))), (hS.rd.mono (Nat.le_refl _) (by simp)), by simp; omega, fun x hx => ?_, ⟨p5 + 1, by omega, by omega, HR6.out.agr ((Agr.refl _ _ _).set (by omega) _)⟩, HC6.out.set (.inr (by omega)) _⟩
              rcases List.mem_or_eq_of_mem_set hx with h | h
              · exact HNM9.out x h
              · subst h; show st9[0].1.length ≤ 3; exact HNM9.out _ (List.getElem_mem _)
            · have e0 : (v6 == 0) = false := beq_eq_false_iff_ne.2 h60
              have e1 : (v6 == 1) = false := beq_eq_false_iff_ne.2 h61
              go_wp2_with fail
              go_ret
              have hS := HO6.out.noNames 0 (by omega) (some ⟨w6.heap.size, 0, none⟩) 0
              refine ⟨_, _, st9.set 0 ([], st9[0].2), congrArg Ending.returned (slice_len (by first | (simp; done) | (have := hlen9.out; simp; omega))), ((hS.mono (Nat.le_refl _) (by simp)).below (below_alloc _ (.cells #[] 3)) (Nat.le_refl _)).mono (Nat.le_refl _) (by simp), by simp; omega, fun x hx => ?_, ⟨p5 + 1, by omega, by omega, (HR6.out.agr ((Agr.refl _ _ _).set (by omega) _)).below (below_alloc _ _) (by simpa using hlt6)⟩, (HC6.out.set (.inr (by omega)) _).alloc _⟩
              rcases List.mem_or_eq_of_mem_set hx with h | h
              · exact HNM9.out x h
              · subst h; simp

/-- A drawn system, and nothing that was there has turned. -/
def DrewY0 (w : World) (e : Ending) (w' : World) : Prop :=
  ∃ a c s, e = .returned (.slice a s.length c) ∧ RdY w' w.heap.size w'.heap.size a s ∧ s.length ≤ 3 ∧ (∀ x ∈ s, x.1.length ≤ 3) ∧ Below w.heap.size w w'

end Go.Proofs.Ytfjodcfbhpglhaa
