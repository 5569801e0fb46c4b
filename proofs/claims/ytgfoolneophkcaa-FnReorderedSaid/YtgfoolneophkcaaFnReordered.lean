/- The law FnReordered, walked. -/
import Derived.Test.YtgfoolneophkcaaDrawO
import Derived.Test.YtgfoolneophkcaaLeastS
import Derived.Test.YtgfoolneophkcaaBeside
import Derived.Test.YtgfoolneophkcaaOrder
import Derived.Test.YtgfoolneophkcaaSameR
import Derived.Test.YtgfoolneophkcaaAlive
namespace Go.Hyp
theorem reord_yes {p : List (List Int)} {o : List Int} (h1 : picB p = true) (h2 : isOrdB o p.length = true) : reorderedR p o = reordL p o := by unfold reorderedR; rw [h1, h2]; rfl
theorem reord_no {p : List (List Int)} {o : List Int} (h : (picB p && isOrdB o p.length) = false) : reorderedR p o = [] := by unfold reorderedR; rw [h]; rfl
/-- In another order the sets are the same. -/
theorem reord_set {p : List (List Int)} {o : List Int} (h1 : picB p = true) (h2 : isOrdB o p.length = true) {k : Nat} (hk : k < o.length) : sameSetB (reordL p o) k p (o.getD k 0) = true := by
  obtain ⟨hl, hr, hn⟩ := isOrd_iff.1 h2
  obtain ⟨v, e, hv⟩ := hr k (by omega)
  have hp := picB_sq h1
  have h3 : picB (reordL p o) = true := sq_picB (reordL_sq p o) (by rw [reordL_len]; exact hp.2.1) (by rw [reordL_len]; exact hp.2.2)
  have h4 := reord_same h2 (b := k) (by omega)
  rw [e] at h4 ⊢
  rw [Int.toNat_natCast] at h4
  exact (sameSetB_iff (nodeB_of h3 (by rw [reordL_len]; omega)) (nodeB_of h1 hv)).2 h4.symm
theorem reord_pic {p : List (List Int)} {o : List Int} (h1 : picB p = true) : picB (reordL p o) = true := by
  have hp := picB_sq h1
  exact sq_picB (reordL_sq p o) (by rw [reordL_len]; exact hp.2.1) (by rw [reordL_len]; exact hp.2.2)
end Go.Hyp
namespace Go.Proofs.Ytgfoolneophkcaa
open Go.RowKit Go.Hyp Go.Deep

theorem implPictureOk_any (a : Option Addr) (cap : Nat) (p : List (List Int)) (w : World) (B C : Nat) (h : RdII w B C a p) (hl : p.length ≤ maxLen) :
    Calls Try.prog 62 #[.slice a p.length cap] w fun e w' => e = .returned (.bool (picB p)) ∧ w = w' := by
  have H := Lib.hid (isPicture_any a cap p w B C h hl)
  clear h
  go_enter Try.func62, Try.ntmps62
  go_wp2_with fail
  refine H.out.mono ?_
  rintro e w' ⟨rfl, rfl⟩
  go_wp2_with fail
  go_ret
  exact ⟨rfl, rfl⟩

set_option maxRecDepth 4000 in
set_option maxHeartbeats 1000000 in
theorem fnReordered_any (a : Option Addr) (cap : Nat) (l : List Int) (w : World) (h : RdB w w.heap.size a l) (hl : l.length ≤ maxLen ∧ l.length ≤ cap) :
    Calls Try.prog 14 #[.slice a l.length cap] w fun e w' => e = .returned (.bool true) ∧ Below w.heap.size w w' := by
  obtain ⟨hl, hcap⟩ := hl
  have HB := Lib.hid h
  clear h
  by_cases hbig : 1048576 < l.length
  · go_enter Try.func14, Try.ntmps14
    go_wp2_with fail
    go_ret
    exact ⟨rfl, Below.refl _ _⟩
  · go_enter Try.func14, Try.ntmps14
    go_wp2_with fail
    refine (drawReordered_any a cap l _ HB.out hl hcap).mono ?_
    rintro e w1 ⟨a2, c2, p, a3, c3, o, rfl, hp, hp5, ho, ho5, hoc, hcm, hb⟩
    have P1 := Lib.hid hp
    have O1 := Lib.hid ho
    have H1 := Lib.hid hb
    have hm : Hid (p.length ≤ maxLen) := Lib.hid (by unfold maxLen; omega)
    have HCM := Lib.hid hcm
    clear hp ho hb hcm
    go_wp2_with fail
    refine (implReordered_any a2 c2 p a3 c3 o w1 _ _ _ _ P1.out (Nat.le_refl _) hm.out O1.out (Nat.le_refl _) (by omega) ⟨hoc, HCM.out⟩).mono ?_
    rintro e w2 ⟨a4, c4, rfl, hx, hb⟩
    have P2 := Lib.hid (P1.out.below hb (Nat.le_refl _))
    have O2 := Lib.hid (O1.out.below hb (Nat.le_refl _))
    have X2 := Lib.hid hx.rd
    have H2 := Lib.hid (H1.out.trans (hb.mono H1.out.size))
    have hz2 : w1.heap.size ≤ w2.heap.size := hb.size
    clear hb hx P1 O1 H1
    go_wp2_with fail
    refine (specReordered_any a2 c2 p a3 c3 o w2 _ _ _ _ P2.out hz2 hm.out O2.out hz2 (by omega) ⟨hoc, HCM.out⟩).mono ?_
    rintro e w3 ⟨a5, c5, rfl, hx, hb⟩
    have P3 := Lib.hid (P2.out.below hb hz2)
    have O3 := Lib.hid (O2.out.below hb hz2)
    have X3 := Lib.hid (X2.out.below hb (Nat.le_refl _))
    have Y3 := Lib.hid hx.rd
    have H3 := Lib.hid (H2.out.trans (hb.mono H2.out.size))
    have hz3 : w2.heap.size ≤ w3.heap.size := hb.size
    have hxl : (reorderedR p o).length ≤ 1048576 := (reordered_small p o).1
    clear hb hx P2 O2 X2 H2
    go_wp2_with fail
    refine (sameRows_any a4 a5 c4 c5 _ _ w3 _ _ _ _ X3.out Y3.out (by unfold maxLen; omega)).mono ?_
    rintro e w4 ⟨rfl, hq⟩
    rw [decide_eq_true rfl]
    have P4 := Lib.hid (P3.out.agr hq.agr)
    have O4 := Lib.hid (O3.out.agr hq.agr)
    have X4 := Lib.hid (X3.out.agr hq.agr)
    have H4 := Lib.hid (H3.out.trans hq.below)
    have hz4 : w3.heap.size ≤ w4.heap.size := (hq.below (B := w3.heap.size)).size
    clear hq P3 O3 X3 Y3 H3
    cases hok : picB p && isOrdB o p.length
    · rw [reord_no hok]
      clear hok
      go_wp2_with (go_at_call 31; refine (alive1_any _).mono ?_; rintro e w' ⟨rfl, rfl⟩)
      go_ret
      exact ⟨rfl, H4.out⟩
    · have hpo := Bool.and_eq_true_iff.1 hok
      have hxe := reord_yes hpo.1 hpo.2
      have hx4 := X4.out
      rw [hxe] at hx4 ⊢
      rw [reordL_len]
      have HP1 := Lib.hid hpo.1
      have HP2 := Lib.hid hpo.2
      have hl1 := (picB_sq hpo.1).2.1
      have hli : (p.length : Int) ≠ 0 := by omega
      have hlb : ((p.length : Int) == 0) = false := beq_eq_false_iff_ne.2 hli
      have HOL := Lib.hid (isOrd_iff.1 hpo.2).1
      have HX4 := Lib.hid hx4
      obtain ⟨X, hX⟩ : ∃ X, X = reordL p o := ⟨_, rfl⟩
      rw [← hX] at HX4
      have hXl : X.length = p.length := by rw [hX, reordL_len]
      have HXL := Lib.hid hXl
      have HX := Lib.hid hX
      clear hok hpo hxe hx4 X4 hX hXl
      go_wp2_with fail
      go_loopw [6] (fun ki wr => ∃ k : Nat, k ≤ o.length ∧ ki = .int .i64 k ∧ Below w.heap.size w wr ∧ w4.heap.size ≤ wr.heap.size ∧ Below w4.heap.size w4 wr) (fun ki _ => o.length - (intOf ki).toNat)
      case atStart => exact ⟨0, Nat.zero_le _, rfl, H4.out, Nat.le_refl _, Below.refl _ _⟩
      case round =>
        obtain ⟨k, hk, rfl, hb, hz, hb4⟩ := hrel
        have H5 := Lib.hid hb
        have HB4 := Lib.hid hb4
        have P5 := Lib.hid (P4.out.below hb4 (by omega))
        have X5 := Lib.hid (HX4.out.below hb4 (by omega))
        obtain ⟨w5, hw5⟩ : ∃ x, x = wr := ⟨_, rfl⟩
        subst hw5
        clear hb
        by_cases hlt : k < o.length
        · have hki : (k : Int) < (o.length : Int) := by omega
          obtain ⟨b, off, rfl, _, hbl, hd⟩ := (O4.out.below hb4 (by omega)).at k hlt
          have HS := Lib.hid (reord_set HP1.out HP2.out hlt)
          have e1 : o.getD k 0 = o[k] := getD_lt hlt
          rw [← HX.out, e1] at HS
          have hbw : b < w5.heap.size := by omega
          obtain ⟨V, hV⟩ : ∃ V, V = o[k] := ⟨_, rfl⟩
          rw [← hV] at hd HS
          clear e1 hV hb4
          go_wp2_with fail
          have hS := implSameSet_any a4 c4 X k a2 c2 p V w5 _ _ _ _ X5.out (by omega) (by rw [HXL.out]; exact hm.out) P5.out (by omega) hm.out
          rw [HS.out, HXL.out] at hS
          refine hS.mono ?_
          rintro e w6 ⟨rfl, hb6⟩
          have H6 := Lib.hid (H5.out.trans (hb6.mono H5.out.size))
          have HB6 := Lib.hid (HB4.out.trans (hb6.mono hz))
          have hz6 : w5.heap.size ≤ w6.heap.size := hb6.size
          clear hS hb6 hd
          go_wp2_with fail
          go_roundw
          case rel => exact ⟨k + 1, by omega, by go_num, H6.out, by omega, HB6.out⟩
          case measure => simp [intOf]; omega
        · obtain rfl : k = o.length := by omega
          clear hb4
          have hPK := Lib.hid (implPictureOk_any a4 c4 X w5 _ _ X5.out (by rw [HXL.out]; exact hm.out))
          rw [HXL.out, show picB X = true by rw [HX.out]; exact reord_pic HP1.out] at hPK
          go_wp2_with fail
          refine hPK.out.mono ?_
          rintro e w' ⟨rfl, rfl⟩
          go_wp2_with fail
          go_ret
          exact ⟨rfl, H5.out⟩
end Go.Proofs.Ytgfoolneophkcaa
