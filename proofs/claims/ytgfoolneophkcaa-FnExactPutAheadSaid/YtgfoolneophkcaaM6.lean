/- Walks of the functions that shorten streams. impl.ShortOf, walked. -/
import Derived.Deep.RegionLaw
import Derived.Deep.Cut
import Derived.Test.YtgfoolneophkcaaM3
import Derived.Test.YtgfoolneophkcaaM1
namespace Go.Hyp
open Go.RowKit Go.Deep
theorem RdI.drop {w : World} {B C : Nat} {b off : Nat} {l : List Int} (h : RdI w B C (some ⟨b, off, none⟩) l) (n : Nat) : RdI w B C (some ⟨b, off + n, none⟩) (l.drop n) := by
  intro i hi
  rw [List.length_drop] at hi
  obtain ⟨b', off', e, h1, h2, h3⟩ := h (n + i) (by omega)
  cases e
  refine ⟨b, off + n, rfl, h1, h2, ?_⟩
  rw [Nat.add_assoc, h3]
  simp [List.getD]
theorem RdI.take {w : World} {B C : Nat} {a : Option Addr} {l : List Int} (h : RdI w B C a l) (n : Nat) : RdI w B C a (l.take n) := by
  intro i hi
  rw [List.length_take] at hi
  obtain ⟨b', off', e, h1, h2, h3⟩ := h i (by omega)
  refine ⟨b', off', e, h1, h2, ?_⟩
  rw [h3]
  have hin : i < n := by omega
  simp only [List.getD, List.getElem?_take, if_pos hin]
theorem slice_len' {a : Option Addr} {c n m : Nat} (h : m = n) : Value.slice a m c = Value.slice a n c := by rw [h]
theorem blk_agr {w w' : World} {k : Nat} {x : Obj} {B C : Nat} (h : Agr B C w w') (hk : w.heap[k]? = some x) (h1 : B ≤ k) (h2 : k < C) : w'.heap[k]? = some x := by rw [h k h1 h2, hk]
theorem OwI.take {w : World} {E B C cap : Nat} {a : Option Addr} {l : List Int} (h : OwI w E B C a cap l) (n : Nat) : OwI w E B C a cap (l.take n) := by
  rcases h with ⟨h1, rfl, h2⟩ | ⟨g, f, e, h1, h2, hr, hl, hm, hf⟩
  · exact .inl ⟨h1, by simp, h2⟩
  · refine .inr ⟨g, f, e, h1, h2, hr, by simp; omega, hm, fun i hi => ?_⟩
    rw [List.length_take] at hi
    have hin : i < n := by omega
    rw [hf i (by omega)]
    simp only [List.getD, List.getElem?_take, if_pos hin]
def lenOf : Value → Nat
  | .slice _ n _ => n
  | _ => 0
theorem OwI.at0 {w : World} {E B C cap : Nat} {a : Option Addr} {l : List Int} (h : OwI w E B C a cap l) (h0 : 0 < l.length) : ∃ g, a = some ⟨g, 0, none⟩ ∧ B ≤ g ∧ g < C ∧ l.length ≤ cap ∧ cap ≤ maxLen ∧ g < w.heap.size := by
  rcases h with ⟨_, rfl, _⟩ | ⟨g, f, e, h1, h2, hr, hl, hm, hf⟩
  · simp at h0
  · exact ⟨g, e, h1, h2, hl, hm, hr.lt⟩
end Go.Hyp
namespace Go.Proofs.Ytgfoolneophkcaa
open Go.RowKit Go.Hyp Go.Deep

set_option maxHeartbeats 400000 in
theorem slicesEqual_any (a a' : Option Addr) (cap cap' : Nat) (l l' : List Int) (w : World) (B C B' C' : Nat) (h : RdI w B C a l) (h' : RdI w B' C' a' l') (hl : l.length ≤ maxLen) :
    Calls Try.prog 72 #[.slice a l.length cap, .slice a' l'.length cap'] w fun e w' => e = .returned (.bool (decide (l = l'))) ∧ Qt w w' := by
  unfold maxLen at hl
  have HF := Lib.hid h
  have HF' := Lib.hid h'
  clear h h'
  by_cases hlen : l.length = l'.length
  · have hb : (((l.length : Nat) : Int) != ((l'.length : Nat) : Int)) = false := by simp [hlen]
    have Hlen := Lib.hid hlen
    clear hlen
    go_enter Try.func72, Try.ntmps72
    go_wp2
    go_loopw [4, 13] (fun r i wr => ∃ k : Nat, k ≤ l.length ∧ r = .bool false ∧ i = .int .i64 k ∧ l.take k = l'.take k ∧ Qt w wr) (fun _ i _ => l.length - (intOf i).toNat)
    case atStart => exact ⟨0, Nat.zero_le _, rfl, rfl, rfl, Qt.refl _⟩
    case round =>
      obtain ⟨k, hk, rfl, rfl, he, hq⟩ := hrel
      have HE := Lib.hid he
      have HQ := Lib.hid hq
      clear he hq
      by_cases hlt : k < l.length
      · have hlt' : k < l'.length := by have := Hlen.out; omega
        obtain ⟨b, off, rfl, h1, h2, hc⟩ := (HF.out.agr HQ.out.agr).at k hlt
        obtain ⟨b', off', rfl, h1', h2', hc'⟩ := (HF'.out.agr HQ.out.agr).at k hlt'
        by_cases hx : l[k] = l'[k]
        · have hxb : (l[k] != l'[k]) = false := by simp [hx]
          have HX := Lib.hid hx
          clear hx
          go_wp2_with fail
          go_quiet (fail)
          go_wp2
          go_roundw
          case rel => exact ⟨k + 1, by omega, rfl, by go_num, take_eq_succ hlt hlt' HE.out HX.out, HQ.out.n _⟩
          case measure => simp [intOf]; omega
        · have hxb : (l[k] != l'[k]) = true := by simp [hx]
          have HX := Lib.hid hx
          clear hx
          go_wp2_with fail
          go_quiet (fail)
          go_wp2
          go_ret
          exact ⟨ret_bool (by rw [decide_eq_false]; exact fun e => HX.out (by simp [e])), HQ.out.n _⟩
      · go_wp2
        go_ret
        exact ⟨ret_bool (by rw [decide_eq_true]; have e := HE.out; have := Hlen.out; rwa [List.take_of_length_le (by omega), List.take_of_length_le (by omega)] at e), HQ.out⟩
  · have hb : (((l.length : Nat) : Int) != ((l'.length : Nat) : Int)) = true := by simp; omega
    have hne : l ≠ l' := fun e => hlen (by rw [e])
    go_enter Try.func72, Try.ntmps72
    go_wp2
    go_ret
    exact ⟨ret_bool (by simp [hne]), Qt.refl _⟩

set_option maxHeartbeats 800000 in
theorem shortOf_any (a1 a2 : Option Addr) (c1 c2 : Nat) (l1 l2 : List Int) (w : World) (B C B' C' : Nat) (h1 : RdI w B C a1 l1) (h2 : RdI w B' C' a2 l2) (hC : C ≤ w.heap.size) (hC' : C' ≤ w.heap.size)
    (hl1 : l1.length ≤ 12) (hl2 : l2.length ≤ 12) (h0 : 1 ≤ l2.length) :
    Calls Try.prog 71 #[.agg #[.slice a1 l1.length c1, .slice a2 l2.length c2]] w fun e w' =>
      ∃ m1 m2, ShortFor (bitOf l1 l2) m1 m2 ∧ m1.length ≤ l1.length ∧ m2.length ≤ l2.length ∧ (∀ x ∈ m1, x ∈ l1) ∧ (∀ x ∈ m2, x ∈ l2 ∨ x ∈ l1) ∧ RetS 3 m1 m2 w e w' := by
  have F1 := Lib.hid h1
  have F2 := Lib.hid h2
  have b0 := alloc2 w (.cells #[.slice a1 l1.length c1, .slice a2 l2.length c2] 34) (.cells #[.slice none 0 0, .slice none 0 0] 34)
  obtain ⟨p1, p2, p3, p4⟩ := blk2 b0.1
  have B0 := Lib.hid b0
  clear h1 h2 b0
  go_enter Try.func71, Try.ntmps71
  have OE := Lib.hid (OwI_empty ((w.alloc (.cells #[.slice a1 l1.length c1, .slice a2 l2.length c2] 34)).alloc (.cells #[.slice none 0 0, .slice none 0 0] 34)) 3)
  simp only [World.size_alloc] at OE
  have HB0 := Lib.hid (((below_alloc w (.cells #[.slice a1 l1.length c1, .slice a2 l2.length c2] 34)).alloc (by simp) (.cells #[.slice none 0 0, .slice none 0 0] 34)).alloc (by simp; omega) (.cells #[] 3))
  go_wp2_with (at_builtin; go_loud (refine wpList_appIs0 Try.underlying29 Try.infoInt _ rfl _ _ rfl (w.heap.size + 1 + 1) (w.heap.size + 1 + 1 + 1) (some ⟨w.heap.size + 1 + 1, 0, none⟩) 0 [] rfl OE.out (by simp) B' C' a2 c2 l2 rfl (F2.out.below HB0.out hC') (by simp; omega) ?_); intro a3 c3 w3 hown3 hgrow hat)
  have hz3 : w.heap.size + 3 ≤ w3.heap.size := by have := hgrow.size; simp at this; omega
  have hbk : blockOf (some (⟨w.heap.size + 1 + 1, 0, none⟩ : Addr)) = some (w.heap.size + 1 + 1) := rfl
  have b1 := grown_blk hgrow (blk_old (o := .cells #[] 3) B0.out.1) (by rw [hbk]; simp; omega)
  have b2 := grown_blk hgrow (blk_old (o := .cells #[] 3) B0.out.2) (by rw [hbk]; simp)
  have HBE := Lib.hid (((((Chg.refl (fun _ => False) w).alloc _).alloc _).alloc _).grown hgrow (fun k hk => .inr (by rw [hbk] at hk; cases hk; omega)))
  clear p1 p2 p3 p4
  obtain ⟨p1, p2, p3, p4⟩ := blk2 b1
  have B1 := Lib.hid b1
  have B2 := Lib.hid b2
  have HO3 := Lib.hid hown3
  clear b1 b2 hown3 hgrow OE B0 HB0
  go_loopw [3, 4] (fun r i wr => ∃ (l : List Int) (a : Option Addr) (c n : Nat), r = .slice a l.length c ∧ i = .int .i64 n ∧ n ≤ l.length + 1 ∧ RoundA l1 l2 l n ∧ OwI wr 3 (w.heap.size + 2) w3.heap.size a c l ∧ Qt w3 wr) (fun _ i _ => 14 - (intOf i).toNat)
  case atStart => exact ⟨l2, a3, c3, 1, rfl, rfl, by omega, .start (by omega), HO3.out, Qt.refl _⟩
  case round =>
    obtain ⟨l, a, c, n, rfl, rfl, hn, hra, ho, hq⟩ := hrel
    have HRA := Lib.hid hra
    have HO := Lib.hid ho
    have HQ := Lib.hid hq
    have hlp : 0 < l.length := hra.2.1
    have hll : l.length ≤ l2.length := hra.2.2.1
    have hn0 : 0 < n := hra.2.2.2.1
    clear hra ho hq HO3
    by_cases hlt : n < l.length
    · obtain ⟨g, rfl, hg1, hg2, hcap, hcm, hgl⟩ := HO.out.at0 hlp
      have hcm' : c ≤ 9223372036854775807 := by unfold maxLen at hcm; omega
      obtain ⟨m, hm⟩ : ∃ m : Nat, m = l.length % n := ⟨_, rfl⟩
      have hr : (l.length : Int).tmod (n : Int) = (m : Int) := by rw [IntWalk.rem_in _ _ (by omega), hm]; rfl
      have HM := Lib.hid hm
      clear hm
      have HE : Hid (∀ N, Calls Try.prog 72 #[.slice (some ⟨g, n, none⟩) (l.length - n) (c - n), .slice (some ⟨g, 0, none⟩) (l.length - n) c] (wr.drewN N) fun e w' =>
          e = .returned (.bool (decide (l.drop n = l.take (l.length - n)))) ∧ Qt (wr.drewN N) w') := fun N => by
        have hrd := HO.out.rd.agr ((Qt.refl wr).n N).agr
        have h1 := hrd.drop n
        rw [Nat.zero_add] at h1
        have h := slicesEqual_any (some ⟨g, n, none⟩) (some ⟨g, 0, none⟩) (c - n) c (l.drop n) (l.take (l.length - n)) (wr.drewN N) _ _ _ _ h1 (hrd.take (l.length - n)) (by unfold maxLen; simp; omega)
        rwa [List.length_drop, List.length_take, Nat.min_eq_left (Nat.sub_le _ _)] at h
      by_cases hd : m = 0
      · subst hd
        have hr0 : (l.length : Int).tmod (n : Int) = 0 := hr
        clear hr
        by_cases hs : l.drop n = l.take (l.length - n)
        · rw [decide_eq_true hs] at HE
          have HRA' := Lib.hid (HRA.out.cut hlt HM.out.symm hs)
          have hln : (l.take n).length = n := by simp; omega
          have HLN := Lib.hid hln
          clear hs hln
          go_wp2_with fail
          go_quiet ((go_at_call 72; exact quietQ (HE.out _)))
          go_wp2_with fail
          go_roundw
          case rel => exact ⟨l.take n, some ⟨g, 0, none⟩, c, n + 1, slice_len' HLN.out.symm, by go_num, by have := HLN.out; omega, HRA'.out, (HO.out.take n).agr ((Qt.refl wr).n _).agr, HQ.out.n _⟩
          case measure => simp [intOf]; omega
        · rw [decide_eq_false hs] at HE
          have HRA' := Lib.hid (HRA.out.stay hlt (fun h => hs h.2))
          clear hs
          go_wp2_with fail
          go_quiet ((go_at_call 72; exact quietQ (HE.out _)))
          go_wp2_with fail
          go_roundw
          case rel => exact ⟨l, some ⟨g, 0, none⟩, c, n + 1, rfl, by go_num, by omega, HRA'.out, HO.out.agr ((Qt.refl wr).n _).agr, HQ.out.n _⟩
          case measure => simp [intOf]; omega
      · have hmb : ((m : Int) == 0) = false := beq_eq_false_iff_ne.2 (by omega)
        have HRA' := Lib.hid (HRA.out.stay hlt (fun h => hd (HM.out.trans h.1)))
        go_wp2_with fail
        go_quiet (fail)
        go_wp2_with fail
        go_roundw
        case rel => exact ⟨l, some ⟨g, 0, none⟩, c, n + 1, rfl, by go_num, by omega, HRA'.out, HO.out.agr ((Qt.refl wr).n _).agr, HQ.out.n _⟩
        case measure => simp [intOf]; omega
    · have HRB := Lib.hid (HRA.out.done (by omega))
      have HIN := Lib.hid HRA.out.2.2.2.2.1
      have HA : Hid (Agr 0 w3.heap.size w3 wr) := HQ.out.agr
      have hzq : wr.heap.size = w3.heap.size := by obtain ⟨N, hN⟩ := HQ.out; rw [hN]; simp
      have hb1' := (blk_agr HA.out B1.out (Nat.zero_le _) (by omega))
      have hb2' := (blk_agr HA.out B2.out (Nat.zero_le _) (by omega))
      obtain ⟨p1, p2, p3, p4⟩ := blk2 hb1'
      have HB2 := Lib.hid hb2'
      have HBW : Hid (Chg (fun _ => False) w wr) := by obtain ⟨N, hN⟩ := HQ.out; exact hN ▸ HBE.out.drewN N
      have OE := Lib.hid (OwI_empty wr 3)
      have HBX := Lib.hid (HBW.out.below (D := w.heap.size) (fun k hk => hk.elim) (Nat.le_refl _))
      have HZQ := Lib.hid hzq
      have hlw : w.heap.size + 2 < wr.heap.size := by omega
      have hlw0 : w.heap.size < wr.heap.size := by omega
      clear hb1' hb2' HQ HA B1 B2 HBE HRA hat hzq hbk
      go_upto_region 7 with (fail)
      go_wp2_with (at_builtin; go_loud (refine wpList_appIs0 Try.underlying29 Try.infoInt _ rfl _ _ rfl wr.heap.size (wr.heap.size + 1) (some ⟨wr.heap.size, 0, none⟩) 0 [] rfl OE.out (by simp) B C a1 c1 l1 rfl ((F1.out.below HBX.out hC).below (below_alloc wr _) (by have := HBX.out.size; omega)) (by simp; omega) ?_); intro a5 c5 w5 hown5 hgrow hat5)
      have hbk5 : blockOf (some (⟨wr.heap.size, 0, none⟩ : Addr)) = some wr.heap.size := rfl
      have hz5 : wr.heap.size + 1 ≤ w5.heap.size := by have := hgrow.size; simpa using this
      have HAG : Hid (Agr 0 wr.heap.size wr w5) := fun k h1 h2 => (hgrow.block k (by simp; omega) (by rw [hbk5]; simp; omega)).trans (Below.heap_alloc _ _ _ h2)
      have HX5 := Lib.hid ((HO.out.agr (HAG.out.mono (Nat.zero_le _) (by have := HZQ.out; omega))).mono (Nat.le_refl _) (show w3.heap.size ≤ w5.heap.size by have := HZQ.out; omega))
      have HY5 := Lib.hid (hown5.mono (show w.heap.size + 2 ≤ wr.heap.size by omega) (Nat.le_refl _))
      have HD5 : Hid (Dis a a5) := HO.out.dis hown5 (by have := HZQ.out; omega)
      have HB5 := Lib.hid (blk_agr HAG.out HB2.out (Nat.zero_le _) (by omega))
      have HC5 := Lib.hid ((HBW.out.alloc (.cells #[] 3)).grown hgrow (fun k hk => .inr (by rw [hbk5] at hk; cases hk; omega)))
      clear hown5 hgrow HO HAG HB2 HBW HBX OE hbk5 hat5 HZQ
      go_loopw [3, 5] (fun r s wi => ∃ (m2 m1 : List Int) (ax ay : Option Addr) (cx cy : Nat), r = .slice ax m2.length cx ∧ s = .slice ay m1.length cy ∧ RoundB (bitOf l1 l2) m1 m2 ∧ m1.length ≤ l1.length ∧ m2.length = l.length ∧ (∀ x ∈ m1, x ∈ l1) ∧ (∀ x ∈ m2, x ∈ l2 ∨ x ∈ l1) ∧
          OwI wi 3 (w.heap.size + 2) wi.heap.size ax cx m2 ∧ OwI wi 3 (w.heap.size + 2) wi.heap.size ay cy m1 ∧ Dis ay ax ∧ wi.heap[w.heap.size + 1]? = some (.cells #[.slice none 0 0, .slice none 0 0] 34 (0, 0)) ∧ Chg (fun _ => False) w wi ∧ w.heap.size + 2 < wi.heap.size) (fun _ s _ => lenOf s)
      case atStart => exact ⟨l, l1, a, a5, c, c5, rfl, rfl, HRB.out, Nat.le_refl _, rfl, fun _ h => h, fun x hx => .inl (HIN.out x hx), HX5.out, HY5.out, fun x y hx hy e => HD5.out y x hy hx e.symm, HB5.out, HC5.out, by omega⟩
      case round =>
        obtain ⟨m2, m1, ax, ay, cx, cy, rfl, rfl, hrb, hm1, hm2, hin1, hin2, ho2, ho1, hdis, hb2, hc, hz⟩ := hrel
        have HRB' := Lib.hid hrb
        have HM2 := Lib.hid hm2
        have HI1 := Lib.hid hin1
        have HI2 := Lib.hid hin2
        have HO2 := Lib.hid ho2
        have HO1 := Lib.hid ho1
        have HDIS := Lib.hid hdis
        have HB2 := Lib.hid hb2
        have HC := Lib.hid hc
        obtain ⟨q1, q2, q3, q4⟩ := blk2 hb2
        have hm2p : 0 < m2.length := hrb.2.1
        have hm2l : m2.length ≤ 12 := by omega
        clear hrb hm2 hin1 hin2 ho2 ho1 hdis hb2 hc HX5 HY5 HD5 HB5 HC5 HIN
        by_cases hm0 : 0 < m1.length
        · obtain ⟨g2, rfl, hg21, hg22, hcap2, hcm2, hgl2⟩ := HO2.out.at0 hm2p
          obtain ⟨g1, rfl, hg11, hg12, hcap1, hcm1, hgl1⟩ := HO1.out.at0 hm0
          obtain ⟨j1, hj1⟩ : ∃ j, m1.length = j + 1 := ⟨m1.length - 1, by omega⟩
          obtain ⟨j2, hj2⟩ : ∃ j, m2.length = j + 1 := ⟨m2.length - 1, by omega⟩
          have i1 : (m1.length : Int) - 1 = (j1 : Int) := by omega
          have i2 : (m2.length : Int) - 1 = (j2 : Int) := by omega
          have k1 : j1 < m1.length := by omega
          have k2 : j2 < m2.length := by omega
          have k1' : (j1 : Int) < (m1.length : Int) := by omega
          have k2' : (j2 : Int) < (m2.length : Int) := by omega
          have kc2 : j2 ≤ cx := by omega
          have kc3 : j1 ≤ cy := by omega
          have hp0 : (0 : Int) < (m1.length : Int) := by omega
          obtain ⟨_, _, e1, _, _, d1⟩ := HO1.out.rd.at j1 k1
          obtain ⟨_, _, e2, _, _, d2⟩ := HO2.out.rd.at j2 k2
          cases e1
          cases e2
          rw [Nat.zero_add] at d1 d2
          have G1 : m1.getD (m1.length - 1) 0 = m1[j1] := by rw [show m1.length - 1 = j1 by omega]; simp [List.getD, k1]
          have G2 : m2.getD (m2.length - 1) 0 = m2[j2] := by rw [show m2.length - 1 = j2 by omega]; simp [List.getD, k2]
          have HJ1 := Lib.hid hj1
          have HJ2 := Lib.hid hj2
          have HG1 := Lib.hid G1
          have HG2 := Lib.hid G2
          clear hj1 hj2 G1 G2
          by_cases hv : m1[j1] = m2[j2]
          · have hvb : (m1[j1] == m2[j2]) = true := beq_iff_eq.2 hv
            have HV := Lib.hid hv
            clear hv
            go_wp2_with fail
            go_quiet (fail)
            go_upto_region 11 with (fail)
            have HLT : Hid (m2.take j2 = m2.take (m2.length - 1) ∧ m1.take j1 = m1.take (m1.length - 1) ∧ (m2.take j2).length = j2 ∧ (m1.take j1).length = j1) := by
              refine ⟨by rw [show m2.length - 1 = j2 by have := HJ2.out; omega], by rw [show m1.length - 1 = j1 by have := HJ1.out; omega], by simp; omega, by simp; omega⟩
            have HRN := Lib.hid (HRB'.out.cut (v := m2[j2]) hm0 (by rw [HG1.out, HG2.out]; exact HV.out) HG2.out.symm)
            rw [← HLT.out.1, ← HLT.out.2.1] at HRN
            go_wp2_with (at_builtin; go_loud (refine wpList_appIs0 Try.underlying29 Try.infoInt _ rfl _ _ rfl wr.heap.size (wr.heap.size + 1) (some ⟨wr.heap.size, 0, none⟩) 1 [m2[j2]] rfl (by exact OwI_one (wr.drewN _) _ _) (by simp) _ _ (some ⟨g2, 0, none⟩) cx (m2.take j2) (congrArg (fun q => Value.slice (some ⟨g2, 0, none⟩) q cx) HLT.out.2.2.1.symm) (by exact ((HO2.out.rd.take j2).agr ((Qt.refl wr).n _).agr).below (below_alloc _ _) (Nat.le_refl _)) (by simp; omega) ?_); intro a6 c6 w6 hown6 hgrow hat6)
            have hbk6 : blockOf (some (⟨wr.heap.size, 0, none⟩ : Addr)) = some wr.heap.size := rfl
            have hz6 : wr.heap.size + 1 ≤ w6.heap.size := by have := hgrow.size; simpa using this
            have HAG : Hid (Agr 0 wr.heap.size wr w6) := fun k h1 h2 => (hgrow.block k (by simp; omega) (by rw [hbk6]; simp; omega)).trans (Below.heap_alloc (wr.drewN _) _ _ h2)
            have hlv : ([m2[j2]] ++ m2.take j2).length = m2.length := by have := HLT.out.2.2.1; have := HJ2.out; simp; omega
            have HLV := Lib.hid hlv
            clear hlv
            go_roundw
            case rel =>
              refine ⟨[m2[j2]] ++ m2.take j2, m1.take j1, a6, some ⟨g1, 0, none⟩, c6, cy, slice_len' (by simp; omega), slice_len' HLT.out.2.2.2.symm, HRN.out, by have := HLT.out.2.2.2; omega, by rw [HLV.out]; exact HM2.out, fun x hx => HI1.out x (List.mem_of_mem_take hx), fun x hx => ?_, hown6.mono (by omega) (Nat.le_refl _), ?_, ?_, blk_agr HAG.out HB2.out (Nat.zero_le _) (by omega), (((HC.out.drewN _).alloc _).grown hgrow (fun k hk => .inr (by rw [hbk6] at hk; cases hk; omega))), by omega⟩
              · rcases List.mem_append.1 hx with h | h
                · simp at h; subst h; exact HI2.out _ (List.getElem_mem _)
                · exact HI2.out x (List.mem_of_mem_take h)
              · exact ((HO1.out.take j1).agr (HAG.out.mono (Nat.zero_le _) (Nat.le_refl _))).mono (Nat.le_refl _) (by omega)
              · exact HO1.out.dis hown6 (Nat.le_refl _)
            case measure => simp [lenOf]; omega
          · have hvb : (m1[j1] == m2[j2]) = false := beq_eq_false_iff_ne.2 hv
            have HSH := Lib.hid (HRB'.out.done (fun h => hv (by rw [← HG1.out, ← HG2.out]; exact h.2)))
            clear hv
            go_wp2_with fail
            go_quiet (fail)
            go_wp2_with fail
            have r0 : ∀ N, (((wr.drewN N).setCell ⟨w.heap.size + 1, 0, none⟩ (.slice (some ⟨g1, 0, none⟩) m1.length cy)).setCell ⟨w.heap.size + 1, 1, none⟩ (.slice (some ⟨g2, 0, none⟩) m2.length cx)).heap[w.heap.size + 1]? = some (.cells #[.slice (some ⟨g1, 0, none⟩) m1.length cy, .slice (some ⟨g2, 0, none⟩) m2.length cx] 34 (0, 0)) :=
              fun N => blk_set (.slice (some ⟨g2, 0, none⟩) m2.length cx) (i := 1) (blk_set (w := wr.drewN N) (.slice (some ⟨g1, 0, none⟩) m1.length cy) (i := 0) HB2.out)
            have r1 := fun N => (blk2 (r0 N)).1
            have r2 := fun N => (blk2 (r0 N)).2.1
            clear r0 q1 q2 q3 q4
            refine bodyPost_ret (v := .agg #[.slice (some ⟨g1, 0, none⟩) m1.length cy, .slice (some ⟨g2, 0, none⟩) m2.length cx]) (by simp [results, Try.results71, go_sem, r1, r2]) rfl ⟨m1, m2, HSH.out, hm1, by have := HM2.out; omega, HI1.out, HI2.out, (some ⟨g1, 0, none⟩), cy, (some ⟨g2, 0, none⟩), cx, rfl, ?_, ?_, HDIS.out, ?_⟩
            · exact ((HO1.out.agr ((Qt.refl wr).n _).agr).agr (((Agr.refl _ _ _).set (by omega) _).set (by omega) _)).mono (by omega) (by simp)
            · exact ((HO2.out.agr ((Qt.refl wr).n _).agr).agr (((Agr.refl _ _ _).set (by omega) _).set (by omega) _)).mono (by omega) (by simp)
            · exact (below_drewN (HC.out.below (D := w.heap.size) (fun k hk => hk.elim) (Nat.le_refl _)) _).setCell (by simp) _ |>.setCell (by simp) _
        · have HSH := Lib.hid (HRB'.out.done (fun h => hm0 h.1))
          go_wp2_with fail
          go_quiet (fail)
          go_wp2_with fail
          have r0 : ∀ N, (((wr.drewN N).setCell ⟨w.heap.size + 1, 0, none⟩ (.slice ay m1.length cy)).setCell ⟨w.heap.size + 1, 1, none⟩ (.slice ax m2.length cx)).heap[w.heap.size + 1]? = some (.cells #[.slice ay m1.length cy, .slice ax m2.length cx] 34 (0, 0)) :=
            fun N => blk_set (.slice ax m2.length cx) (i := 1) (blk_set (w := wr.drewN N) (.slice ay m1.length cy) (i := 0) HB2.out)
          have r1 := fun N => (blk2 (r0 N)).1
          have r2 := fun N => (blk2 (r0 N)).2.1
          clear r0 q1 q2 q3 q4
          refine bodyPost_ret (v := .agg #[.slice ay m1.length cy, .slice ax m2.length cx]) (by simp [results, Try.results71, go_sem, r1, r2]) rfl ⟨m1, m2, HSH.out, hm1, by have := HM2.out; omega, HI1.out, HI2.out, ay, cy, ax, cx, rfl, ?_, ?_, HDIS.out, ?_⟩
          · exact ((HO1.out.agr ((Qt.refl wr).n _).agr).agr (((Agr.refl _ _ _).set (by omega) _).set (by omega) _)).mono (by omega) (by simp)
          · exact ((HO2.out.agr ((Qt.refl wr).n _).agr).agr (((Agr.refl _ _ _).set (by omega) _).set (by omega) _)).mono (by omega) (by simp)
          · exact (below_drewN (HC.out.below (D := w.heap.size) (fun k hk => hk.elim) (Nat.le_refl _)) _).setCell (by simp) _ |>.setCell (by simp) _
end Go.Proofs.Ytgfoolneophkcaa
namespace Go.Hyp
open Go.RowKit Go.Deep
/-- What ShortOf answers for a stream. -/
def ShortAns (l1 l2 m1 m2 : List Int) : Prop :=
  (streamB l1 l2 = true ∧ ShortFor (bitOf l1 l2) m1 m2 ∧ m1.length ≤ l1.length ∧ m2.length ≤ l2.length ∧ streamB m1 m2 = true) ∨ (streamB l1 l2 = false ∧ m1 = [] ∧ m2 = [])
theorem ShortAns.one {l1 l2 m1 m2 n1 n2 : List Int} (h : ShortAns l1 l2 m1 m2) (k : ShortAns l1 l2 n1 n2) : m1 = n1 ∧ m2 = n2 := by
  rcases h with ⟨a, h, _⟩ | ⟨a, h1, h2⟩ <;> rcases k with ⟨b, k, _⟩ | ⟨b, k1, k2⟩
  · exact h.one k
  · rw [a] at b; cases b
  · rw [a] at b; cases b
  · exact ⟨h1.trans k1.symm, h2.trans k2.symm⟩
theorem short_stream {l1 l2 m1 m2 : List Int} (h : streamB l1 l2 = true) (hf : ShortFor (bitOf l1 l2) m1 m2) (h1 : m1.length ≤ l1.length) (h2 : m2.length ≤ l2.length) (i1 : ∀ x ∈ m1, x ∈ l1) (i2 : ∀ x ∈ m2, x ∈ l2 ∨ x ∈ l1) : streamB m1 m2 = true := by
  unfold streamB bitsB at h ⊢
  simp only [Bool.and_eq_true, decide_eq_true_eq, List.all_eq_true] at h ⊢
  obtain ⟨⟨⟨b1, b2⟩, b3⟩, b4⟩ := h
  exact ⟨⟨⟨fun x hx => b1 x (i1 x hx), fun x hx => (i2 x hx).elim (b2 x) (b1 x)⟩, hf.2.1⟩, by omega⟩
end Go.Hyp
namespace Go.Proofs.Ytgfoolneophkcaa
open Go.RowKit Go.Hyp Go.Deep

set_option maxHeartbeats 400000 in
theorem implShortOf_any (a1 a2 : Option Addr) (c1 c2 : Nat) (l1 l2 : List Int) (w : World) (B C B' C' : Nat) (h1 : RdI w B C a1 l1) (h2 : RdI w B' C' a2 l2) (hC : C ≤ w.heap.size) (hC' : C' ≤ w.heap.size)
    (hl1 : l1.length ≤ 1048576) (hl2 : l2.length ≤ 1048576) :
    Calls Try.prog 26 #[.agg #[.slice a1 l1.length c1, .slice a2 l2.length c2]] w fun e w' => ∃ m1 m2, ShortAns l1 l2 m1 m2 ∧ RetS 3 m1 m2 w e w' := by
  have hb := (below_alloc w (.cells #[.slice a1 l1.length c1, .slice a2 l2.length c2] 34)).alloc (by simp) (.cells #[.slice none 0 0, .slice none 0 0] 34)
  have b0 := alloc2 w (.cells #[.slice a1 l1.length c1, .slice a2 l2.length c2] 34) (.cells #[.slice none 0 0, .slice none 0 0] 34)
  have F1 := Lib.hid (h1.below hb hC)
  have F2 := Lib.hid (h2.below hb hC')
  have HB := Lib.hid hb
  have B0 := Lib.hid b0
  clear h1 h2 hb b0
  cases hy : streamB l1 l2
  · have HY := Lib.hid hy
    clear hy
    go_enter Try.func26, Try.ntmps26
    go_wp2_with fail
    refine (isStream_any a1 a2 c1 c2 l1 l2 _ B C B' C' F1.out F2.out (by simp; omega) (by simp; omega) hl1 hl2).mono ?_
    rintro e w1 ⟨rfl, hb1⟩
    rw [HY.out]
    have x1 := hb1.blk B0.out.1 (by simp; omega)
    have x2 := hb1.blk B0.out.2 (by simp)
    obtain ⟨q1, q2, q3, q4⟩ := blk2 x2
    have X2 := Lib.hid x2
    have H1 := Lib.hid (below_trans HB.out (hb1.mono (by first | (simp; done) | (simp; omega))))
    clear hb1 x1 x2
    go_wp2_with fail
    obtain ⟨r1, r2, _, _⟩ := blk2 (blk_set (.slice none 0 0) (i := 1) (blk_set (.slice none 0 0) (i := 0) X2.out))
    refine bodyPost_ret (v := .agg #[.slice none 0 0, .slice none 0 0]) (by simp [results, Try.results26, go_sem, r1, r2]) rfl ⟨[], [], .inr ⟨HY.out, rfl, rfl⟩, none, 0, none, 0, rfl, .inl ⟨rfl, rfl, rfl⟩, .inl ⟨rfl, rfl, rfl⟩, (fun x y hx => by cases hx), (H1.out.setCell (by simp) _).setCell (by simp) _⟩
  · have HY := Lib.hid hy
    have hlen : l1.length ≤ 12 ∧ l2.length ≤ 12 ∧ 1 ≤ l2.length := by
      unfold streamB at hy
      simp only [Bool.and_eq_true, decide_eq_true_eq] at hy
      omega
    obtain ⟨k1, k2, k3⟩ := hlen
    clear hy
    go_enter Try.func26, Try.ntmps26
    go_wp2_with fail
    refine (isStream_any a1 a2 c1 c2 l1 l2 _ B C B' C' F1.out F2.out (by simp; omega) (by simp; omega) hl1 hl2).mono ?_
    rintro e w1 ⟨rfl, hb1⟩
    rw [HY.out]
    have x1 := hb1.blk B0.out.1 (by simp; omega)
    have x2 := hb1.blk B0.out.2 (by simp)
    obtain ⟨p1, p2, p3, p4⟩ := blk2 x1
    have X2 := Lib.hid x2
    have G1 := Lib.hid (F1.out.below hb1 (by simp; omega))
    have G2 := Lib.hid (F2.out.below hb1 (by simp; omega))
    have hz1 : w.heap.size + 2 ≤ w1.heap.size := by have := hb1.size; simpa using this
    have H1 := Lib.hid (below_trans HB.out (hb1.mono (by first | (simp; done) | (simp; omega))))
    clear hb1 x1 x2 F1 F2
    go_wp2_with fail
    refine (shortOf_any a1 a2 c1 c2 l1 l2 w1 B C B' C' G1.out G2.out (by omega) (by omega) k1 k2 k3).mono ?_
    rintro e w2 ⟨m1, m2, hf, hm1, hm2, i1, i2, x1, d1, x2, d2, rfl, o1, o2, hd, hb2⟩
    have X3 := Lib.hid (hb2.blk X2.out (by omega))
    obtain ⟨q1, q2, q3, q4⟩ := blk2 X3.out
    have hz2 := hb2.size
    have HF := Lib.hid hf
    have HS := Lib.hid (short_stream HY.out hf hm1 hm2 i1 i2)
    have O1 := Lib.hid o1
    have O2 := Lib.hid o2
    have HD := Lib.hid hd
    have H2 := Lib.hid (below_trans H1.out (hb2.mono (by omega)))
    clear hf i1 i2 o1 o2 hd hb2 p1 p2 p3 p4
    go_wp2_with fail
    obtain ⟨r1, r2, _, _⟩ := blk2 (blk_set (.slice x2 m2.length d2) (i := 1) (blk_set (.slice x1 m1.length d1) (i := 0) X3.out))
    refine bodyPost_ret (v := .agg #[.slice x1 m1.length d1, .slice x2 m2.length d2]) (by simp [results, Try.results26, go_sem, r1, r2]) rfl ⟨m1, m2, .inl ⟨HY.out, HF.out, hm1, hm2, HS.out⟩, x1, d1, x2, d2, rfl, ?_, ?_, HD.out, (H2.out.setCell (by simp) _).setCell (by simp) _⟩
    · exact (O1.out.agr (((Agr.refl _ _ _).set (by omega) _).set (by omega) _)).mono (by omega) (by simp)
    · exact (O2.out.agr (((Agr.refl _ _ _).set (by omega) _).set (by omega) _)).mono (by omega) (by simp)
end Go.Proofs.Ytgfoolneophkcaa
