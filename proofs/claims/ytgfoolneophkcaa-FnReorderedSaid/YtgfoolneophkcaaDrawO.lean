/- A drawn picture and an order of its nodes: spec.DrawReordered. -/
import Derived.Test.YtgfoolneophkcaaDrawP
import Derived.Test.YtgfoolneophkcaaOrdS
import Derived.Test.YtgfoolneophkcaaShort
namespace Go.Hyp
open Go.RowKit Go.Deep
theorem ords_pos {n : Nat} (hn : 1 ≤ n) : 0 < (ords n (n - 1)).length := by
  have h : (List.range n).map Int.ofNat ∈ ords n (n - 1) := (ords_all hn _).2 ⟨isOrd_iff.2 ⟨by simp, fun i hi => ⟨i, by rw [getD_lt (by simp; exact hi)]; simp, hi⟩, by
    rw [List.nodup_iff_pairwise_ne, List.pairwise_map]
    exact List.Pairwise.imp (fun h e => h (Int.ofNat.inj e)) (List.nodup_iff_pairwise_ne.1 List.nodup_range)⟩, by rw [getD_lt (by simp; omega)]; simp⟩
  exact List.length_pos_of_mem h
theorem slice_len2 {a : Option Addr} {c n m : Nat} (h : m = n) : Value.slice a m c = Value.slice a n c := by rw [h]
/-- A drawn picture and an order; nothing that was there has turned. -/
def DrewPO (w : World) (e : Ending) (w' : World) : Prop :=
  ∃ a c P a' c' o, e = .returned (.tuple #[.slice a (P : List (List Int)).length c, .slice a' (o : List Int).length c']) ∧ RdII w' w.heap.size w'.heap.size a P ∧ P.length ≤ 5 ∧ RdI w' w.heap.size w'.heap.size a' o ∧ o.length ≤ 5 ∧ o.length ≤ c' ∧ c' ≤ maxLen ∧ Below w.heap.size w w'
end Go.Hyp
namespace Go.Proofs.Ytgfoolneophkcaa
open Go.RowKit Go.Hyp Go.Deep

set_option maxRecDepth 4000 in
set_option maxHeartbeats 1000000 in
theorem drawReordered_any (a : Option Addr) (cap : Nat) (l : List Int) (w : World) (h : RdB w w.heap.size a l) (hl : l.length ≤ maxLen) (hcap : l.length ≤ cap) :
    Calls Try.prog 59 #[.slice a l.length cap] w (DrewPO w) := by
  have HB := Lib.hid h
  clear h
  go_enter Try.func59, Try.ntmps59
  go_wp2_with fail
  refine (open_any a cap l _ HB.out hl hcap).mono ?_
  rintro e w1 ⟨l', rfl, hr1, hb1, hz1⟩
  have HR1 := Lib.hid hr1
  have HH1 := Lib.hid hb1
  have hz1' : w.heap.size + 1 ≤ w1.heap.size := by omega
  clear hr1 hb1 hz1
  go_wp2_with fail
  refine (l20Picture_any _ l' 0 14 w1 HR1.out (by omega) (by omega)).mono ?_
  rintro e w2 ⟨a2, c2, P, rfl, hp, _, hp5, _, ⟨p2, _, hp2, hr2⟩, hc2⟩
  have HP := Lib.hid hp
  have HR2 := Lib.hid hr2
  have HH2 := Lib.hid (HH1.out.trans (hc2.below (D := w.heap.size) (fun k hk => by omega) (by omega)))
  have hz2 : w1.heap.size ≤ w2.heap.size := hc2.size
  clear hp hr2 hc2 HR1 HH1
  have hmx : max (P.length : Int) 1 = ((max P.length 1 : Nat) : Int) := by omega
  have hmx2 : (if (1 : Int) > (P.length : Int) then 1 else (P.length : Int)) = ((max P.length 1 : Nat) : Int) := by split <;> omega
  have hmb : max P.length 1 ≤ 5 := by omega
  have hm1 : 1 ≤ max P.length 1 := by omega
  obtain ⟨M, hM⟩ : ∃ M, M = max P.length 1 := ⟨_, rfl⟩
  rw [← hM] at hmx hmx2 hmb hm1
  have HMX := Lib.hid hmx
  have HMX2 := Lib.hid hmx2
  clear hM hmx hmx2
  go_wp2_with fail
  first
    | rw [HMX.out]
    | rw [HMX2.out]
  refine (l4Orders_any M w2 hm1 hmb).mono ?_
  rintro e w3 ⟨xa, xc, rfl, ho3, hb3⟩
  obtain ⟨O, hO⟩ : ∃ O, O = ords M (M - 1) := ⟨_, rfl⟩
  rw [← hO] at ho3 ⊢
  have hO0 : 0 < O.length := by rw [hO]; exact ords_pos hm1
  have hO5 : O.length ≤ 625 := by
    rw [hO]
    refine Nat.le_trans (ords_len M hmb _) ?_
    calc 5 ^ (M - 1) ≤ 5 ^ 4 := Nat.pow_le_pow_right (by omega) (by omega)
      _ = 625 := by decide
  have HOL : Hid (∀ i, i < O.length → (O.getD i []).length = M) := Lib.hid fun i hi => by
    have h1 : O.getD i [] ∈ ords M (M - 1) := by rw [← hO]; simp [List.getD, hi]
    exact (isOrd_iff.1 ((ords_all hm1 _).1 h1).1).1
  have HO3 := Lib.hid ho3
  have HR3 := Lib.hid (HR2.out.below hb3 (by omega))
  have HP3 := Lib.hid (HP.out.below hb3 (Nat.le_refl _))
  have HH3 := Lib.hid (HH2.out.trans (hb3.mono (by omega)))
  have hz3 : w2.heap.size ≤ w3.heap.size := hb3.size
  clear ho3 hb3 HR2 HP HH2 hO
  go_wp2_with fail
  refine (pick_rdr w.heap.size l' p2 O.length w3 HR3.out (by omega) (by omega)).mono ?_
  rintro e w4 ⟨v, rfl, v0, v1, hr4, hc4, hz4⟩
  obtain ⟨I, rfl⟩ := Int.eq_ofNat_of_zero_le v0
  have hI : I < O.length := by omega
  have hIi : (I : Int) < (O.length : Int) := by omega
  have hz4' : w3.heap.size ≤ w4.heap.size := by omega
  obtain ⟨g, ar, cr, eg, hg, hd, how, _⟩ := (HO3.out.agr (hc4.agr (by omega) (fun k h1 h2 => by omega))).rowNew I hI
  rw [HOL.out I hI] at hd
  obtain ⟨o, ho⟩ : ∃ o, o = O.getD I [] := ⟨_, rfl⟩
  have hon : o.length = M := by rw [ho]; exact HOL.out I hI
  rw [← ho] at how
  have HW4 := Lib.hid how
  have HR4 := Lib.hid hr4
  have HP4 := Lib.hid (HP3.out.agr (hc4.agr (by omega) (fun k h1 h2 => by omega)))
  have HH4 := Lib.hid (HH3.out.trans (hc4.below (D := w.heap.size) (fun k hk => by omega) (by omega)))
  have HON := Lib.hid hon
  clear how hr4 hc4 hz4 ho hon HO3 HR3 HP3 HH3 v1
  subst eg
  go_wp2_with fail
  refine (pick_rdr w.heap.size l' (p2 + 1) 3 w4 HR4.out (by omega) (by omega)).mono ?_
  rintro e w5 ⟨v, rfl, v0, v1, hr5, hc5, hz5⟩
  have hz5' : w4.heap.size ≤ w5.heap.size := by omega
  have HW5 := Lib.hid (HW4.out.agr (hc5.agr (by omega) (fun k h1 h2 => by omega)))
  have HR5 := Lib.hid hr5
  have HP5 := Lib.hid (HP4.out.agr (hc5.agr (by omega) (fun k h1 h2 => by omega)))
  have HH5 := Lib.hid (HH4.out.trans (hc5.below (D := w.heap.size) (fun k hk => by omega) (by omega)))
  clear hr5 hc5 hz5 HW4 HR4 HP4 HH4 hd
  go_upto_if 25 with (fail)
  go_cut [7] from 25 to 31 (fun s wc => ∃ (oa : Option Addr) (oc : Nat) (o : List Int), s = .slice oa M oc ∧ o.length = M ∧ OwI wc 3 w2.heap.size wc.heap.size oa oc o ∧ Rdr wc w.heap.size 92 l' (p2 + 2) ∧ RdII wc w1.heap.size w2.heap.size a2 P ∧ Below w.heap.size w wc ∧ w2.heap.size ≤ wc.heap.size)
  case first =>
    by_cases hv : v = 0
    · subst hv
      obtain ⟨b1, eb, hb1, hcl, hcm⟩ : ∃ b1, ar = some ⟨b1, 0, none⟩ ∧ b1 < w5.heap.size ∧ M ≤ cr ∧ cr ≤ maxLen := by
        have hlen := HON.out
        have h1 := HW5.out.lecap
        have h2 := HW5.out.capmax
        rcases id HW5.out with ⟨_, h3, _⟩ | ⟨b1, f, e1, h3, h4, _⟩
        · rw [h3] at hlen; simp at hlen; omega
        · exact ⟨b1, e1, by omega, by omega, h2⟩
      subst eb
      have HDL : Hid (M - 1 = (o.drop 1).length) := Lib.hid (by rw [List.length_drop, HON.out])
      have hol : o.length ≤ 5 := by have := HON.out; omega
      have hmi : (1 : Int) ≤ (M : Int) := by omega
      have hci1 : (M : Int) ≤ (cr : Int) := by omega
      by_cases hc1 : cr = 1
      · subst hc1
        obtain rfl : M = 1 := by omega
        have HDR : Hid (RdI w5 w2.heap.size w5.heap.size (some ⟨b1, 0, none⟩) (o.drop 1)) := Lib.hid (fun i hi => by have := HDL.out; omega)
        go_wp2_with (at_builtin; first
          | (go_loud (refine wpList_appIs Try.underlying29 Try.infoInt _ rfl (.tmp 26) (.tmp 28) rfl w5.heap.size (w5.heap.size + 1) (some ⟨w5.heap.size, 0, none⟩) 0 [] rfl (OwI_empty w5 _) (by simp) w2.heap.size w5.heap.size (some ⟨b1, 0, none⟩) 0 (o.drop 1) (slice_len2 HDL.out) (HDR.out.below (below_alloc _ _) (Nat.le_refl _)) (fun h => by cases h) (by simp; omega) ?_); intro a6 c6 w6 hown6 hgrow6 hat6; have HO6 := Lib.hid hown6; have HH6 := Lib.hid (below_app (Below.refl w5.heap.size w5) hgrow6 (fun k hk => by simp [blockOf] at hk; omega) (Nat.le_refl _) (Nat.le_refl _)); clear hown6 hgrow6 hat6)
          | (go_loud (refine wpList_appI Try.underlying29 Try.infoInt _ rfl (.tmp 29) (.tmp 30) rfl w5.heap.size w6.heap.size a6 c6 ([] ++ o.drop 1) (slice_len2 (by simp)) (HO6.out.agr ((Agr.refl _ _ _).alloc (Nat.le_refl _) _)) (by have := HH6.out.size; simp; omega) ⟨w6.heap.size, 0, none⟩ 0 rfl (new_cellE _ _ _ rfl) (by simp; omega) ?_); intro g7 c7 w7 hown7 hgrow7 hat7 hg7; have HO7 := Lib.hid hown7; have HH7 := Lib.hid (below_app HH6.out hgrow7 (HO6.out.app_in (Nat.le_refl _)) (Nat.le_refl _) (Nat.le_refl _)); clear hown7 hgrow7 hat7))
        go_meet
        case rel =>
          have hz7 := HH7.out.size
          exact ⟨some ⟨g7, 0, none⟩, c7, [] ++ o.drop 1 ++ [0], slice_len2 (by have := HON.out; first | omega | (simp; omega)), by have := HON.out; simp; omega, HO7.out.mono (by omega) (Nat.le_refl _), HR5.out.below HH7.out (by have := HH5.out.size; omega), HP5.out.below HH7.out (by omega), HH5.out.trans (HH7.out.mono (by have := HH5.out.size; omega)), by omega⟩
      · have hci : (1 : Int) < (cr : Int) := by omega
        have HDR : Hid (RdI w5 w2.heap.size w5.heap.size (some ⟨b1, 1, none⟩) (o.drop 1)) := Lib.hid (by
          have := (HW5.out.rd.mono (B' := w2.heap.size) (by omega) (C' := w5.heap.size) (by omega)).drop 1
          simpa using this)
        go_wp2_with (at_builtin; first
          | (go_loud (refine wpList_appIs Try.underlying29 Try.infoInt _ rfl (.tmp 26) (.tmp 28) rfl w5.heap.size (w5.heap.size + 1) (some ⟨w5.heap.size, 0, none⟩) 0 [] rfl (OwI_empty w5 _) (by simp) w2.heap.size w5.heap.size (some ⟨b1, 1, none⟩) (cr - 1) (o.drop 1) (slice_len2 HDL.out) (HDR.out.below (below_alloc _ _) (Nat.le_refl _)) (fun h => by cases h) (by simp; omega) ?_); intro a6 c6 w6 hown6 hgrow6 hat6; have HO6 := Lib.hid hown6; have HH6 := Lib.hid (below_app (Below.refl w5.heap.size w5) hgrow6 (fun k hk => by simp [blockOf] at hk; omega) (Nat.le_refl _) (Nat.le_refl _)); clear hown6 hgrow6 hat6)
          | (go_loud (refine wpList_appI Try.underlying29 Try.infoInt _ rfl (.tmp 29) (.tmp 30) rfl w5.heap.size w6.heap.size a6 c6 ([] ++ o.drop 1) (slice_len2 (by simp)) (HO6.out.agr ((Agr.refl _ _ _).alloc (Nat.le_refl _) _)) (by have := HH6.out.size; simp; omega) ⟨w6.heap.size, 0, none⟩ 0 rfl (new_cellE _ _ _ rfl) (by simp; omega) ?_); intro g7 c7 w7 hown7 hgrow7 hat7 hg7; have HO7 := Lib.hid hown7; have HH7 := Lib.hid (below_app HH6.out hgrow7 (HO6.out.app_in (Nat.le_refl _)) (Nat.le_refl _) (Nat.le_refl _)); clear hown7 hgrow7 hat7))
        go_meet
        case rel =>
          have hz7 := HH7.out.size
          exact ⟨some ⟨g7, 0, none⟩, c7, [] ++ o.drop 1 ++ [0], slice_len2 (by have := HON.out; first | omega | (simp; omega)), by have := HON.out; simp; omega, HO7.out.mono (by omega) (Nat.le_refl _), HR5.out.below HH7.out (by have := HH5.out.size; omega), HP5.out.below HH7.out (by omega), HH5.out.trans (HH7.out.mono (by have := HH5.out.size; omega)), by omega⟩
    · have hvb : (v == 0) = false := beq_eq_false_iff_ne.2 hv
      go_wp2_with fail
      go_meet
      case rel => exact ⟨ar, cr, o, rfl, HON.out, HW5.out.mono (by omega) (by omega), HR5.out, HP5.out, HH5.out, by omega⟩
  case rest =>
    obtain ⟨oa, oc, o2, rfl, hon2, how2, hr2, hp2, hh2, hz2c⟩ := hcut
    obtain ⟨w8, rfl⟩ : ∃ w8 : World, w8 = wc := ⟨_, rfl⟩
    have HON2 := Lib.hid hon2
    have HW8 := Lib.hid how2
    have HR8 := Lib.hid hr2
    have HP8 := Lib.hid hp2
    have HH8 := Lib.hid hh2
    clear hon2 how2 hr2 hp2 hh2 HW5 HR5 HP5 HH5 HON
    go_wp2_with fail
    refine (odd_rdr w.heap.size l' (p2 + 2) 14 w8 HR8.out (by omega) (by omega)).mono ?_
    rintro e w9 ⟨b, rfl, p9, _, hp9, hr9, hc9⟩
    have hz9 : w8.heap.size ≤ w9.heap.size := hc9.size
    have HW9 := Lib.hid (HW8.out.agr (hc9.agr (Nat.le_refl _) (fun k h1 h2 => by omega)))
    have HR9 := Lib.hid hr9
    have HP9 := Lib.hid (HP8.out.agr (hc9.agr (by omega) (fun k h1 h2 => by omega)))
    have HH9 := Lib.hid (HH8.out.trans (hc9.below (D := w.heap.size) (fun k hk => by omega) (by have := HH8.out.size; omega)))
    clear hr9 hc9 HW8 HR8 HP8 HH8
    go_upto_if 33 with (fail)
    go_cut [7] from 33 to 42 (fun s wc => ∃ (oa : Option Addr) (oc : Nat) (o : List Int), s = .slice oa M oc ∧ o.length = M ∧ OwI wc 3 w2.heap.size wc.heap.size oa oc o ∧ Rdr wc w.heap.size 92 l' p9 ∧ RdII wc w1.heap.size w2.heap.size a2 P ∧ Below w.heap.size w wc ∧ w2.heap.size ≤ wc.heap.size)
    case first =>
      obtain ⟨J, hJ⟩ : ∃ J, J = M - 1 := ⟨_, rfl⟩
      have hJi : (M : Int) - 1 = (J : Int) := by omega
      have HJ := Lib.hid hJ
      clear hJ
      cases b
      · go_wp2_with fail
        go_meet
        case rel => exact ⟨oa, oc, o2, rfl, HON2.out, HW9.out.mono (Nat.le_refl _) (by omega), HR9.out, HP9.out, HH9.out, by omega⟩
      · skip
        obtain ⟨b1, eb, hb1, hcl, hcm⟩ : ∃ b1, oa = some ⟨b1, 0, none⟩ ∧ b1 < w9.heap.size ∧ M ≤ oc ∧ oc ≤ maxLen := by
          have hlen := HON2.out
          have h1 := HW9.out.lecap
          have h2 := HW9.out.capmax
          rcases id HW9.out with ⟨_, h3, _⟩ | ⟨b1, f, e1, h3, h4, _⟩
          · rw [h3] at hlen; simp at hlen; omega
          · exact ⟨b1, e1, by omega, by omega, h2⟩
        subst eb
        have HDL : Hid (M - 1 = (o2.drop 1).length) := Lib.hid (by rw [List.length_drop, HON2.out])
        have hol : o2.length ≤ 5 := by have := HON2.out; omega
        have hmi : (1 : Int) ≤ (M : Int) := by omega
        have hci1 : (M : Int) ≤ (oc : Int) := by omega
        by_cases hc1 : oc = 1
        · subst hc1
          obtain rfl : M = 1 := by omega
          have HDR : Hid (RdI w9 w2.heap.size w9.heap.size (some ⟨b1, 0, none⟩) (o2.drop 1)) := Lib.hid (fun i hi => by have := HDL.out; omega)
          go_wp2_with (at_builtin; first
            | (go_loud (refine wpList_appIs Try.underlying29 Try.infoInt _ rfl (.tmp 34) (.tmp 36) rfl w9.heap.size (w9.heap.size + 1) (some ⟨w9.heap.size, 0, none⟩) 0 [] rfl (OwI_empty w9 _) (by simp) w2.heap.size w9.heap.size (some ⟨b1, 0, none⟩) 0 (o2.drop 1) (slice_len2 HDL.out) (HDR.out.below (below_alloc _ _) (Nat.le_refl _)) (fun h => by cases h) (by simp; omega) ?_); intro a6 c6 w6 hown6 hgrow6 hat6; have HO6 := Lib.hid hown6; have HH6 := Lib.hid (below_app (Below.refl w9.heap.size w9) hgrow6 (fun k hk => by simp [blockOf] at hk; omega) (Nat.le_refl _) (Nat.le_refl _)); clear hown6 hgrow6 hat6)
            | (go_loud (refine wpList_appI Try.underlying29 Try.infoInt _ rfl (.tmp 37) (.tmp 41) rfl w9.heap.size w6.heap.size a6 c6 ([] ++ o2.drop 1) (slice_len2 (by simp)) (HO6.out.agr ((Agr.refl _ _ _).alloc (Nat.le_refl _) _)) (by have := HH6.out.size; simp; omega) ⟨w6.heap.size, 0, none⟩ 0 rfl (new_cellE _ _ _ rfl) (by simp; omega) ?_); intro g7 c7 w7 hown7 hgrow7 hat7 hg7; have HO7 := Lib.hid hown7; have HH7 := Lib.hid (below_app HH6.out hgrow7 (HO6.out.app_in (Nat.le_refl _)) (Nat.le_refl _) (Nat.le_refl _)); clear hown7 hgrow7 hat7))
          go_meet
          case rel =>
            have hz7 := HH7.out.size
            exact ⟨some ⟨g7, 0, none⟩, c7, [] ++ o2.drop 1 ++ [0], slice_len2 (by have := HON2.out; first | omega | (simp; omega)), by have := HON2.out; simp; omega, HO7.out.mono (by omega) (Nat.le_refl _), HR9.out.below HH7.out (by have := HH9.out.size; omega), HP9.out.below HH7.out (by omega), HH9.out.trans (HH7.out.mono (by have := HH9.out.size; omega)), by omega⟩
        · have hci : (1 : Int) < (oc : Int) := by omega
          have HDR : Hid (RdI w9 w2.heap.size w9.heap.size (some ⟨b1, 1, none⟩) (o2.drop 1)) := Lib.hid (by
            have := (HW9.out.rd.mono (B' := w2.heap.size) (by omega) (C' := w9.heap.size) (by omega)).drop 1
            simpa using this)
          go_wp2_with (at_builtin; first
            | (go_loud (refine wpList_appIs Try.underlying29 Try.infoInt _ rfl (.tmp 34) (.tmp 36) rfl w9.heap.size (w9.heap.size + 1) (some ⟨w9.heap.size, 0, none⟩) 0 [] rfl (OwI_empty w9 _) (by simp) w2.heap.size w9.heap.size (some ⟨b1, 1, none⟩) (oc - 1) (o2.drop 1) (slice_len2 HDL.out) (HDR.out.below (below_alloc _ _) (Nat.le_refl _)) (fun h => by cases h) (by simp; omega) ?_); intro a6 c6 w6 hown6 hgrow6 hat6; have HO6 := Lib.hid hown6; have HH6 := Lib.hid (below_app (Below.refl w9.heap.size w9) hgrow6 (fun k hk => by simp [blockOf] at hk; omega) (Nat.le_refl _) (Nat.le_refl _)); clear hown6 hgrow6 hat6)
            | (go_loud (refine wpList_appI Try.underlying29 Try.infoInt _ rfl (.tmp 37) (.tmp 41) rfl w9.heap.size w6.heap.size a6 c6 ([] ++ o2.drop 1) (slice_len2 (by simp)) (HO6.out.agr ((Agr.refl _ _ _).alloc (Nat.le_refl _) _)) (by have := HH6.out.size; simp; omega) ⟨w6.heap.size, 0, none⟩ (J : Int) rfl (new_cellE _ _ _ rfl) (by simp; omega) ?_); intro g7 c7 w7 hown7 hgrow7 hat7 hg7; have HO7 := Lib.hid hown7; have HH7 := Lib.hid (below_app HH6.out hgrow7 (HO6.out.app_in (Nat.le_refl _)) (Nat.le_refl _) (Nat.le_refl _)); clear hown7 hgrow7 hat7))
          go_meet
          case rel =>
            have hz7 := HH7.out.size
            exact ⟨some ⟨g7, 0, none⟩, c7, [] ++ o2.drop 1 ++ [(J : Int)], slice_len2 (by have := HON2.out; first | omega | (simp; omega)), by have := HON2.out; simp; omega, HO7.out.mono (by omega) (Nat.le_refl _), HR9.out.below HH7.out (by have := HH9.out.size; omega), HP9.out.below HH7.out (by omega), HH9.out.trans (HH7.out.mono (by have := HH9.out.size; omega)), by omega⟩
    case rest =>
      obtain ⟨oa3, oc3, o3, rfl, hon3, how3, _, hp3, hh3, hz3c⟩ := hcut
      obtain ⟨w10, rfl⟩ : ∃ w10 : World, w10 = wc := ⟨_, rfl⟩
      have HON3 := Lib.hid hon3
      have HW10 := Lib.hid how3
      have HP10 := Lib.hid hp3
      have HH10 := Lib.hid hh3
      clear hon3 how3 hp3 hh3 HW9 HR9 HP9 HH9 HON2
      go_wp2_with fail
      refine bodyPost_ret (v := .tuple #[.slice a2 P.length c2, .slice oa3 M oc3]) (by simp [results, Try.results59, go_sem]) rfl ?_
      have h1 := HW10.out.lecap
      have h2 := HON3.out
      exact ⟨a2, c2, P, oa3, oc3, o3, by rw [h2], HP10.out.mono (by omega) (by omega), hp5, HW10.out.rd.mono (by omega) (Nat.le_refl _), by omega, h1, HW10.out.capmax, HH10.out⟩
end Go.Proofs.Ytgfoolneophkcaa
