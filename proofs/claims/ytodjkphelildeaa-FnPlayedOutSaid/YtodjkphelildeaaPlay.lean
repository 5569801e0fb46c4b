/- The game: best answers, both ways of finding them. -/
import Derived.Test.YtodjkphelildeaaPlayP
namespace Go.Hyp
open Go.RowKit Go.Deep
/-- What AnswerTo answers. -/
def answerOk (p : List (List Int)) (f m o : Int) : Bool := nodeB p f && (nodeB p m && (nodeB p o && (arr p f.toNat m.toNat && !(arrL p o.toNat p.length).isEmpty)))
def answerI (p : List (List Int)) (f m o : Int) : Int := if answerOk p f m o = true then bestA p m.toNat o.toNat else -1
theorem fmax_take {f : Nat → Int} {L : List Int} {k : Nat} (h : k < L.length) : fmax f (L.take (k + 1)) = if (fmax f (L.take k)).2 < f (L[k]).toNat then (L[k], f (L[k]).toNat) else fmax f (L.take k) := by
  rw [List.take_succ_eq_append_getElem h, fmax_snoc]
end Go.Hyp
namespace Go.Proofs.Ytodjkphelildeaa
open Go.RowKit Go.Hyp Go.Deep

set_option maxHeartbeats 400000 in
theorem answerTo_any (a : Option Addr) (cap : Nat) (p : List (List Int)) (m o : Nat) (w : World) (B C : Nat) (h : RdII w B C a p) (hC : C ≤ w.heap.size) (hs : Sq p) (hm : m < p.length) (ho : o < p.length) (hl : p.length ≤ 900) :
    Calls Try.prog 54 #[.slice a p.length cap, .int .i64 m, .int .i64 o] w fun e w' => e = .returned (.int .i64 (bestA p m o)) ∧ Below w.heap.size w w' := by
  have F := Lib.hid h
  have HS := Lib.hid hs
  clear h hs
  have hal := arrL_le p o p.length
  go_enter Try.func54, Try.ntmps54
  go_wp2_with fail
  refine (arrowsOf_any a cap p o w B C F.out hC HS.out ho (by omega)).mono ?_
  rintro e w1 ⟨x, c, rfl, hox, hb⟩
  have HR := Lib.hid (hox.rd.mono (Nat.zero_le _) (Nat.le_refl _))
  have HB1 := Lib.hid hb
  have hz1 : w.heap.size ≤ w1.heap.size := hb.size
  clear hox hb
  go_wp2_with fail
  go_loopw [7, 8, 16] (fun b h c wr => ∃ (k : Nat) (bv hv : Int), k ≤ (arrL p o p.length).length ∧ c = .int .i64 k ∧ b = .int .i64 bv ∧ h = .int .i64 hv ∧ fmax (heldZ p m) ((arrL p o p.length).take k) = (bv, hv) ∧ Below w1.heap.size w1 wr) (fun _ _ c _ => (arrL p o p.length).length - (intOf c).toNat)
  case atStart => exact ⟨0, -1, -1, Nat.zero_le _, rfl, rfl, rfl, rfl, Below.refl _ _⟩
  case round =>
    obtain ⟨k, bv, hv, hk, rfl, rfl, rfl, hf, hb⟩ := hrel
    have HF := Lib.hid hf
    have HB := Lib.hid hb
    have hzr : w1.heap.size ≤ wr.heap.size := hb.size
    clear hf hb
    by_cases hlt : k < (arrL p o p.length).length
    · obtain ⟨b, off, rfl, _, hbC, hd⟩ := (HR.out.below HB.out (Nat.le_refl _)).at k hlt
      obtain ⟨v, hvv, hvn, hva⟩ := arrL_at hlt
      rw [hvv] at hd
      have hnx := fmax_take (f := heldZ p m) hlt
      rw [HF.out, hvv, Int.toNat_natCast] at hnx
      have HNX := Lib.hid hnx
      have hH : heldZ p m v = (heldN p m v : Int) := rfl
      have HHH := Lib.hid hH
      clear hvv hnx hH
      go_wp2_with fail
      refine (heldFor_any a cap p m v wr B C (F.out.below (HB1.out.trans (HB.out.mono hz1)) hC) (by omega) HS.out hm hvn hl).mono ?_
      rintro e w2 ⟨rfl, hb2⟩
      have HB2 := Lib.hid (HB.out.trans (hb2.mono hzr))
      clear hb2
      by_cases hgt : hv < (heldN p m v : Int)
      · go_wp2_with fail
        go_roundw
        case rel => exact ⟨k + 1, v, heldN p m v, by omega, by go_num, rfl, rfl, by rw [HNX.out, HHH.out, if_pos hgt], HB2.out⟩
        case measure => simp [intOf]; omega
      · go_wp2_with fail
        go_roundw
        case rel => exact ⟨k + 1, bv, hv, by omega, by go_num, rfl, rfl, by rw [HNX.out, HHH.out, if_neg (Int.not_lt.2 (by omega))], HB2.out⟩
        case measure => simp [intOf]; omega
    · obtain rfl : k = (arrL p o p.length).length := by omega
      go_wp2_with fail
      go_ret
      refine ⟨ret_int ?_, HB1.out.trans (HB.out.mono hz1)⟩
      have := HF.out
      rw [List.take_of_length_le (Nat.le_refl _)] at this
      unfold bestA
      rw [this]

set_option maxHeartbeats 400000 in
theorem l7Best_any (a : Option Addr) (cap : Nat) (p : List (List Int)) (m o : Nat) (w : World) (B C : Nat) (h : RdII w B C a p) (hC : C ≤ w.heap.size) (hp : picB p = true) (hm : m < p.length) (ho : o < p.length) :
    Calls Try.prog 50 #[.slice a p.length cap, .int .i64 m, .int .i64 o] w fun e w' => e = .returned (.tuple #[.int .i64 (phi (longA p m o)), .int .i64 (bestA p m o)]) ∧ Below w.heap.size w w' := by
  have F := Lib.hid h
  obtain ⟨sq, s1, s5⟩ := picB_sq hp
  have HS := Lib.hid sq
  have HP := Lib.hid hp
  clear h sq hp
  have hal := arrL_le p o p.length
  go_enter Try.func50, Try.ntmps50
  go_wp2_with fail
  refine (l6Arrows_any a cap p o w B C F.out hC HS.out ho (by omega)).mono ?_
  rintro e w1 ⟨x, c, rfl, hox, hb⟩
  have HR := Lib.hid (hox.rd.mono (Nat.zero_le _) (Nat.le_refl _))
  have HB1 := Lib.hid hb
  have hz1 : w.heap.size ≤ w1.heap.size := hb.size
  clear hox hb
  go_wp2_with fail
  go_loopw [8, 9, 11] (fun b h c wr => ∃ (k : Nat) (bv hv : Int), k ≤ (arrL p o p.length).length ∧ c = .int .i64 k ∧ b = .int .i64 bv ∧ h = .int .i64 hv ∧ fmax (held5 p m) ((arrL p o p.length).take k) = (bv, hv) ∧ Below w1.heap.size w1 wr) (fun _ _ c _ => (arrL p o p.length).length - (intOf c).toNat)
  case atStart => exact ⟨0, -1, -1, Nat.zero_le _, rfl, rfl, rfl, rfl, Below.refl _ _⟩
  case round =>
    obtain ⟨k, bv, hv, hk, rfl, rfl, rfl, hf, hb⟩ := hrel
    have HF := Lib.hid hf
    have HB := Lib.hid hb
    have hzr : w1.heap.size ≤ wr.heap.size := hb.size
    clear hf hb
    by_cases hlt : k < (arrL p o p.length).length
    · obtain ⟨b, off, rfl, _, hbC, hd⟩ := (HR.out.below HB.out (Nat.le_refl _)).at k hlt
      obtain ⟨v, hvv, hvn, hva⟩ := arrL_at hlt
      rw [hvv] at hd
      have hnx := fmax_take (f := held5 p m) hlt
      rw [HF.out, hvv, Int.toNat_natCast] at hnx
      have HNX := Lib.hid hnx
      have hcall := specHeldFor_any a cap p m v wr B C (F.out.below (HB1.out.trans (HB.out.mono hz1)) hC) (by omega) (by unfold maxLen; omega)
      have hbw : b < wr.heap.size := by omega
      have hok : heldOk p m v = !simB p m v := by unfold heldOk; rw [nodeB_of HP.out hm, nodeB_of HP.out hvn]; rfl
      cases hsim : simB p m v
      · have hI : heldI p m v = (heldN p m v : Int) := by unfold heldI; rw [hok, hsim]; rfl
        have h5 : held5 p m v = (heldN p m v : Int) := by unfold held5; rw [hsim]; rfl
        rw [hok, hsim, hI] at hcall
        have HC := Lib.hid hcall
        have H5 := Lib.hid h5
        clear hvv hnx hcall hok hsim hI h5
        by_cases hgt : hv < (heldN p m v : Int)
        all_goals
          go_wp2_with fail
          refine HC.out.mono ?_
          rintro e w2 ⟨rfl, hb2⟩
          have HB2 := Lib.hid (HB.out.trans (hb2.mono hzr))
          have hd2 := (bcell hb2).1 b (off + k) hbw
          rw [hd] at hd2
          have hbw2 : b < w2.heap.size := by have := hb2.size; omega
          clear hb2
          go_wp2_with fail
          go_roundw
          case rel => first | exact ⟨k + 1, v, heldN p m v, by omega, by go_num, rfl, rfl, by rw [HNX.out, H5.out, if_pos hgt], HB2.out⟩ | exact ⟨k + 1, bv, hv, by omega, by go_num, rfl, rfl, by rw [HNX.out, H5.out, if_neg (Int.not_lt.2 (by omega))], HB2.out⟩
          case measure => simp [intOf]; omega
      · have hI : heldI p m v = -1 := by unfold heldI; rw [hok, hsim]; rfl
        have h5 : held5 p m v = 5 := by unfold held5; rw [hsim]; rfl
        rw [hok, hsim, hI] at hcall
        have HC := Lib.hid hcall
        have H5 := Lib.hid h5
        clear hvv hnx hcall hok hsim hI h5
        by_cases hgt : hv < 5
        all_goals
          go_wp2_with fail
          refine HC.out.mono ?_
          rintro e w2 ⟨rfl, hb2⟩
          have HB2 := Lib.hid (HB.out.trans (hb2.mono hzr))
          have hd2 := (bcell hb2).1 b (off + k) hbw
          rw [hd] at hd2
          have hbw2 : b < w2.heap.size := by have := hb2.size; omega
          clear hb2
          go_wp2_with fail
          go_roundw
          case rel => first | exact ⟨k + 1, v, 5, by omega, by go_num, rfl, rfl, by rw [HNX.out, H5.out, if_pos hgt], HB2.out⟩ | exact ⟨k + 1, bv, hv, by omega, by go_num, rfl, rfl, by rw [HNX.out, H5.out, if_neg (Int.not_lt.2 (by omega))], HB2.out⟩
          case measure => simp [intOf]; omega
    · obtain rfl : k = (arrL p o p.length).length := by omega
      go_wp2_with fail
      go_ret2
      have h1 := HF.out
      rw [List.take_of_length_le (Nat.le_refl _)] at h1
      obtain ⟨e1, e2, _⟩ := fmax_phi s5 hm (arrL p o p.length) (fun x hx => by obtain ⟨k, e, h, _⟩ := arrL_mem.1 hx; exact ⟨k, e, h⟩)
      rw [h1] at e1 e2
      exact ⟨by unfold longA bestA; rw [← e2, ← e1]; rfl, HB1.out.trans (HB.out.mono hz1)⟩

set_option maxRecDepth 4000 in
set_option maxHeartbeats 800000 in
theorem implAnswerTo_any (a : Option Addr) (cap : Nat) (p : List (List Int)) (f m o : Int) (w : World) (B C : Nat) (h : RdII w B C a p) (hC : C ≤ w.heap.size) (hl : p.length ≤ maxLen) :
    Calls Try.prog 18 #[.slice a p.length cap, .int .i64 f, .int .i64 m, .int .i64 o] w fun e w' => e = .returned (.tuple #[.int .i64 (answerI p f m o), .bool (answerOk p f m o)]) ∧ Below w.heap.size w w' := by
  have F := Lib.hid h
  have HL := Lib.hid hl
  unfold maxLen at hl
  clear h
  have HN := fun n => Lib.hid (hasNode_any a cap p n w B C F.out HL.out)
  cases h1 : nodeB p f
  · have e1 : answerOk p f m o = false := by unfold answerOk; rw [h1]; rfl
    have E1 := Lib.hid e1
    have E2 : Hid (answerI p f m o = -1) := Lib.hid (by unfold answerI; rw [e1]; rfl)
    have H1 := Lib.hid h1
    clear h1 e1
    go_enter Try.func18, Try.ntmps18
    go_wp2_with fail
    refine (HN f).out.mono ?_
    rintro e w' ⟨rfl, rfl⟩
    rw [H1.out]
    go_wp2_with fail
    go_ret2
    exact ⟨by rw [E1.out, E2.out]; rfl, Below.refl _ _⟩
  · cases h2 : nodeB p m
    · have e1 : answerOk p f m o = false := by unfold answerOk; rw [h2]; simp
      have E1 := Lib.hid e1
      have E2 : Hid (answerI p f m o = -1) := Lib.hid (by unfold answerI; rw [e1]; rfl)
      have H1 := Lib.hid h1
      have H2 := Lib.hid h2
      clear h1 h2 e1
      go_enter Try.func18, Try.ntmps18
      go_wp2_with fail
      refine (HN f).out.mono ?_
      rintro e w' ⟨rfl, rfl⟩
      rw [H1.out]
      go_wp2_with fail
      refine (HN m).out.mono ?_
      rintro e w' ⟨rfl, rfl⟩
      rw [H2.out]
      go_wp2_with fail
      go_ret2
      exact ⟨by rw [E1.out, E2.out]; rfl, Below.refl _ _⟩
    · cases h3 : nodeB p o
      · have e1 : answerOk p f m o = false := by unfold answerOk; rw [h3]; simp
        have E1 := Lib.hid e1
        have E2 : Hid (answerI p f m o = -1) := Lib.hid (by unfold answerI; rw [e1]; rfl)
        have H1 := Lib.hid h1
        have H2 := Lib.hid h2
        have H3 := Lib.hid h3
        clear h1 h2 h3 e1
        go_enter Try.func18, Try.ntmps18
        go_wp2_with fail
        refine (HN f).out.mono ?_
        rintro e w' ⟨rfl, rfl⟩
        rw [H1.out]
        go_wp2_with fail
        refine (HN m).out.mono ?_
        rintro e w' ⟨rfl, rfl⟩
        rw [H2.out]
        go_wp2_with fail
        refine (HN o).out.mono ?_
        rintro e w' ⟨rfl, rfl⟩
        rw [H3.out]
        go_wp2_with fail
        go_ret2
        exact ⟨by rw [E1.out, E2.out]; rfl, Below.refl _ _⟩
      · obtain ⟨fn, rfl, hf, hp⟩ := nodeB_nat h1
        obtain ⟨mn, rfl, hm, _⟩ := nodeB_nat h2
        obtain ⟨on, rfl, ho, _⟩ := nodeB_nat h3
        obtain ⟨sq, s1, s5⟩ := picB_sq hp
        have hok : answerOk p fn mn on = (arr p fn mn && !(arrL p on p.length).isEmpty) := by unfold answerOk; rw [h1, h2, h3]; rfl
        obtain ⟨b, off, b', off', c', rfl, _, hbC, hc, _, hbC', hd⟩ := F.out.bit sq fn mn hf hm
        have H1 := Lib.hid h1
        have H2 := Lib.hid h2
        have H3 := Lib.hid h3
        have HS := Lib.hid sq
        have HP := Lib.hid hp
        have HOK := Lib.hid hok
        have hfi : (fn : Int) < (p.length : Int) := by omega
        have hmi : (mn : Int) < (p.length : Int) := by omega
        clear h1 h2 h3 sq hp hok
        cases hx : arr p fn mn
        · have E1 : Hid (answerOk p fn mn on = false) := Lib.hid (by rw [HOK.out, hx]; rfl)
          have E2 : Hid (answerI p fn mn on = -1) := Lib.hid (by unfold answerI; rw [E1.out]; rfl)
          rw [hx] at hd
          simp only [Bool.false_eq_true, if_false] at hd
          clear hx
          go_enter Try.func18, Try.ntmps18
          go_wp2_with fail
          refine (HN fn).out.mono ?_
          rintro e w' ⟨rfl, rfl⟩
          rw [H1.out]
          go_wp2_with fail
          refine (HN mn).out.mono ?_
          rintro e w' ⟨rfl, rfl⟩
          rw [H2.out]
          go_wp2_with fail
          refine (HN on).out.mono ?_
          rintro e w' ⟨rfl, rfl⟩
          rw [H3.out]
          go_wp2_with fail
          go_ret2
          exact ⟨by rw [E1.out, E2.out]; rfl, Below.refl _ _⟩
        · have hem : answerOk p fn mn on = !(arrL p on p.length).isEmpty := by rw [HOK.out, hx]; rfl
          rw [hx] at hd
          simp only [if_true] at hd
          have HEM := Lib.hid hem
          clear hx hem
          by_cases he : arrL p on p.length = []
          · have E1 : Hid (answerOk p fn mn on = false) := Lib.hid (by rw [HEM.out, he]; rfl)
            have E2 : Hid (answerI p fn mn on = -1) := Lib.hid (by unfold answerI; rw [E1.out]; rfl)
            have HE := Lib.hid he
            clear he
            go_enter Try.func18, Try.ntmps18
            go_wp2_with fail
            refine (HN fn).out.mono ?_
            rintro e w' ⟨rfl, rfl⟩
            rw [H1.out]
            go_wp2_with fail
            refine (HN mn).out.mono ?_
            rintro e w' ⟨rfl, rfl⟩
            rw [H2.out]
            go_wp2_with fail
            refine (HN on).out.mono ?_
            rintro e w' ⟨rfl, rfl⟩
            rw [H3.out]
            go_wp2_with fail
            have hA := arrowsOf_any (some ⟨b, off, none⟩) cap p on w B C F.out hC HS.out ho (by omega)
            rw [HE.out] at hA
            refine hA.mono ?_
            rintro e w1 ⟨x, c, rfl, hox, hb⟩
            clear hA hox
            go_wp2_with fail
            go_ret2
            exact ⟨by rw [E1.out, E2.out]; rfl, hb⟩
          · have E1 : Hid (answerOk p fn mn on = true) := Lib.hid (by
              rw [HEM.out]
              cases hh : arrL p on p.length with
              | nil => exact absurd hh he
              | cons x xs => rfl)
            have E2 : Hid (answerI p fn mn on = bestA p mn on) := Lib.hid (by unfold answerI; rw [E1.out, if_pos rfl, Int.toNat_natCast, Int.toNat_natCast])
            have hpos : 0 < (arrL p on p.length).length := List.length_pos_iff.2 he
            have hposi : (0 : Int) < ((arrL p on p.length).length : Int) := by omega
            have HE := Lib.hid he
            clear he
            go_enter Try.func18, Try.ntmps18
            go_wp2_with fail
            refine (HN fn).out.mono ?_
            rintro e w' ⟨rfl, rfl⟩
            rw [H1.out]
            go_wp2_with fail
            refine (HN mn).out.mono ?_
            rintro e w' ⟨rfl, rfl⟩
            rw [H2.out]
            go_wp2_with fail
            refine (HN on).out.mono ?_
            rintro e w' ⟨rfl, rfl⟩
            rw [H3.out]
            go_wp2_with fail
            refine (arrowsOf_any (some ⟨b, off, none⟩) cap p on w B C F.out hC HS.out ho (by omega)).mono ?_
            rintro e w1 ⟨x, c, rfl, hox, hb⟩
            have hne : (((arrL p on p.length).length : Int) == 0) = false := beq_eq_false_iff_ne.2 (by omega)
            have HB := Lib.hid hb
            clear hox hb
            go_wp2_with fail
            refine (answerTo_any (some ⟨b, off, none⟩) cap p mn on w1 B C (F.out.below HB.out hC) (Nat.le_trans hC HB.out.size) HS.out hm ho (by omega)).mono ?_
            rintro e w2 ⟨rfl, hb2⟩
            go_wp2_with fail
            go_ret2
            exact ⟨by rw [E1.out, E2.out]; rfl, HB.out.trans (hb2.mono HB.out.size)⟩

set_option maxRecDepth 4000 in
set_option maxHeartbeats 800000 in
theorem specAnswerTo_any (a : Option Addr) (cap : Nat) (p : List (List Int)) (f m o : Int) (w : World) (B C : Nat) (h : RdII w B C a p) (hC : C ≤ w.heap.size) (hl : p.length ≤ maxLen) :
    Calls Try.prog 16 #[.slice a p.length cap, .int .i64 f, .int .i64 m, .int .i64 o] w fun e w' => e = .returned (.tuple #[.int .i64 (answerI p f m o), .bool (answerOk p f m o)]) ∧ Below w.heap.size w w' := by
  have F := Lib.hid h
  have HL := Lib.hid hl
  unfold maxLen at hl
  clear h
  have HN := fun n => Lib.hid (specNodeOk_any a cap p n w B C F.out HL.out)
  cases h1 : nodeB p f
  · have e1 : answerOk p f m o = false := by unfold answerOk; rw [h1]; rfl
    have E1 := Lib.hid e1
    have E2 : Hid (answerI p f m o = -1) := Lib.hid (by unfold answerI; rw [e1]; rfl)
    have H1 := Lib.hid h1
    clear h1 e1
    go_enter Try.func16, Try.ntmps16
    go_wp2_with fail
    refine (HN f).out.mono ?_
    rintro e w' ⟨rfl, rfl⟩
    rw [H1.out]
    go_wp2_with fail
    go_ret2
    exact ⟨by rw [E1.out, E2.out]; rfl, Below.refl _ _⟩
  · cases h2 : nodeB p m
    · have e1 : answerOk p f m o = false := by unfold answerOk; rw [h2]; simp
      have E1 := Lib.hid e1
      have E2 : Hid (answerI p f m o = -1) := Lib.hid (by unfold answerI; rw [e1]; rfl)
      have H1 := Lib.hid h1
      have H2 := Lib.hid h2
      clear h1 h2 e1
      go_enter Try.func16, Try.ntmps16
      go_wp2_with fail
      refine (HN f).out.mono ?_
      rintro e w' ⟨rfl, rfl⟩
      rw [H1.out]
      go_wp2_with fail
      refine (HN m).out.mono ?_
      rintro e w' ⟨rfl, rfl⟩
      rw [H2.out]
      go_wp2_with fail
      go_ret2
      exact ⟨by rw [E1.out, E2.out]; rfl, Below.refl _ _⟩
    · cases h3 : nodeB p o
      · have e1 : answerOk p f m o = false := by unfold answerOk; rw [h3]; simp
        have E1 := Lib.hid e1
        have E2 : Hid (answerI p f m o = -1) := Lib.hid (by unfold answerI; rw [e1]; rfl)
        have H1 := Lib.hid h1
        have H2 := Lib.hid h2
        have H3 := Lib.hid h3
        clear h1 h2 h3 e1
        go_enter Try.func16, Try.ntmps16
        go_wp2_with fail
        refine (HN f).out.mono ?_
        rintro e w' ⟨rfl, rfl⟩
        rw [H1.out]
        go_wp2_with fail
        refine (HN m).out.mono ?_
        rintro e w' ⟨rfl, rfl⟩
        rw [H2.out]
        go_wp2_with fail
        refine (HN o).out.mono ?_
        rintro e w' ⟨rfl, rfl⟩
        rw [H3.out]
        go_wp2_with fail
        go_ret2
        exact ⟨by rw [E1.out, E2.out]; rfl, Below.refl _ _⟩
      · obtain ⟨fn, rfl, hf, hp⟩ := nodeB_nat h1
        obtain ⟨mn, rfl, hm, _⟩ := nodeB_nat h2
        obtain ⟨on, rfl, ho, _⟩ := nodeB_nat h3
        obtain ⟨sq, s1, s5⟩ := picB_sq hp
        have hok : answerOk p fn mn on = (arr p fn mn && !(arrL p on p.length).isEmpty) := by unfold answerOk; rw [h1, h2, h3]; rfl
        obtain ⟨b, off, b', off', c', rfl, _, hbC, hc, _, hbC', hd⟩ := F.out.bit sq fn mn hf hm
        have H1 := Lib.hid h1
        have H2 := Lib.hid h2
        have H3 := Lib.hid h3
        have HS := Lib.hid sq
        have HP := Lib.hid hp
        have HOK := Lib.hid hok
        have hfi : (fn : Int) < (p.length : Int) := by omega
        have hmi : (mn : Int) < (p.length : Int) := by omega
        clear h1 h2 h3 sq hp hok
        cases hx : arr p fn mn
        · have E1 : Hid (answerOk p fn mn on = false) := Lib.hid (by rw [HOK.out, hx]; rfl)
          have E2 : Hid (answerI p fn mn on = -1) := Lib.hid (by unfold answerI; rw [E1.out]; rfl)
          rw [hx] at hd
          simp only [Bool.false_eq_true, if_false] at hd
          clear hx
          go_enter Try.func16, Try.ntmps16
          go_wp2_with fail
          refine (HN fn).out.mono ?_
          rintro e w' ⟨rfl, rfl⟩
          rw [H1.out]
          go_wp2_with fail
          refine (HN mn).out.mono ?_
          rintro e w' ⟨rfl, rfl⟩
          rw [H2.out]
          go_wp2_with fail
          refine (HN on).out.mono ?_
          rintro e w' ⟨rfl, rfl⟩
          rw [H3.out]
          go_wp2_with fail
          go_ret2
          exact ⟨by rw [E1.out, E2.out]; rfl, Below.refl _ _⟩
        · have hem : answerOk p fn mn on = !(arrL p on p.length).isEmpty := by rw [HOK.out, hx]; rfl
          rw [hx] at hd
          simp only [if_true] at hd
          have HEM := Lib.hid hem
          clear hx hem
          by_cases he : arrL p on p.length = []
          · have E1 : Hid (answerOk p fn mn on = false) := Lib.hid (by rw [HEM.out, he]; rfl)
            have E2 : Hid (answerI p fn mn on = -1) := Lib.hid (by unfold answerI; rw [E1.out]; rfl)
            have HE := Lib.hid he
            clear he
            go_enter Try.func16, Try.ntmps16
            go_wp2_with fail
            refine (HN fn).out.mono ?_
            rintro e w' ⟨rfl, rfl⟩
            rw [H1.out]
            go_wp2_with fail
            refine (HN mn).out.mono ?_
            rintro e w' ⟨rfl, rfl⟩
            rw [H2.out]
            go_wp2_with fail
            refine (HN on).out.mono ?_
            rintro e w' ⟨rfl, rfl⟩
            rw [H3.out]
            go_wp2_with fail
            refine (l7Best_any (some ⟨b, off, none⟩) cap p mn on w B C F.out hC HP.out hm ho).mono ?_
            rintro e w1 ⟨rfl, hb⟩
            rw [(bestA_none HE.out).1]
            go_wp2_with fail
            go_ret2
            exact ⟨by rw [E1.out, E2.out]; rfl, hb⟩
          · have E1 : Hid (answerOk p fn mn on = true) := Lib.hid (by
              rw [HEM.out]
              cases hh : arrL p on p.length with
              | nil => exact absurd hh he
              | cons x xs => rfl)
            have E2 : Hid (answerI p fn mn on = bestA p mn on) := Lib.hid (by unfold answerI; rw [E1.out, if_pos rfl, Int.toNat_natCast, Int.toNat_natCast])
            have hpos : 0 < (arrL p on p.length).length := List.length_pos_iff.2 he
            have hposi : (0 : Int) < ((arrL p on p.length).length : Int) := by omega
            have HE := Lib.hid he
            clear he
            go_enter Try.func16, Try.ntmps16
            go_wp2_with fail
            refine (HN fn).out.mono ?_
            rintro e w' ⟨rfl, rfl⟩
            rw [H1.out]
            go_wp2_with fail
            refine (HN mn).out.mono ?_
            rintro e w' ⟨rfl, rfl⟩
            rw [H2.out]
            go_wp2_with fail
            refine (HN on).out.mono ?_
            rintro e w' ⟨rfl, rfl⟩
            rw [H3.out]
            go_wp2_with fail
            refine (l7Best_any (some ⟨b, off, none⟩) cap p mn on w B C F.out hC HP.out hm ho).mono ?_
            rintro e w1 ⟨rfl, hb⟩
            obtain ⟨v, hv, _, _, _, _⟩ := bestA_some (m := mn) HE.out
            rw [hv]
            have HV := Lib.hid hv
            clear hv
            go_wp2_with fail
            go_ret2
            exact ⟨by rw [E1.out, E2.out, HV.out]; rfl, hb⟩
end Go.Proofs.Ytodjkphelildeaa
