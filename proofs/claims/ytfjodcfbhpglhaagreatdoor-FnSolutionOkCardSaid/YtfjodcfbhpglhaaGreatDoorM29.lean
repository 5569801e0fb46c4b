/- The search for the least picture: impl.leastOf's closure. UNDER WAY: the walk is not done. -/
import Derived.Deep.RegionHeld3
import Derived.Test.YtfjodcfbhpglhaaGreatDoorM14
import Derived.Test.YtfjodcfbhpglhaaGreatDoorM27
import Derived.Test.YtfjodcfbhpglhaaGreatDoorM13
import Derived.Test.YtfjodcfbhpglhaaGreatDoorM28
import Derived.Test.YtfjodcfbhpglhaaGreatDoorM3
namespace Go.Hyp
open Go.RowKit Go.Deep
/-- What stands in memory while orders are tried: the joined picture's cell jb, the best one's bb, the order's ob, the closure's fb; X the joined picture (below jb), o the order so far (its block g is no cell's and lies outside the best picture), b the best picture. -/
def PlaceSt (E R S T f jb bb ob fb BX CX : Nat) (X : List (List Int)) (o : List Int) (b : List (List Int)) (w : World) : Prop :=
  ∃ ja jc ba bc g oc Bb Cb, w.heap[jb]? = some (.cells #[.slice ja X.length jc] S (0, 0)) ∧ w.heap[bb]? = some (.cells #[.slice ba X.length bc] S (0, 0)) ∧ w.heap[ob]? = some (.cells #[.slice (some ⟨g, 0, none⟩) o.length oc] R (0, 0)) ∧
    w.heap[fb]? = some (.cells #[.func (.func f) #[] #[.pointer (some ⟨ob, 0, none⟩), .pointer (some ⟨jb, 0, none⟩), .pointer (some ⟨bb, 0, none⟩), .pointer (some ⟨fb, 0, none⟩)]] T (0, 0)) ∧
    RdII w BX CX ja X ∧ CX ≤ jb ∧ OwII w E R Bb Cb ba bc b ∧ Cb ≤ w.heap.size ∧ (Cb ≤ jb ∨ fb < Bb) ∧ OwI w E (bb + 1) w.heap.size (some ⟨g, 0, none⟩) oc o ∧ g ≠ ob ∧ g ≠ fb ∧ (g < Bb ∨ Cb ≤ g) ∧ jb < bb ∧ bb < ob ∧ ob < fb ∧ BX ≤ Bb
theorem grown_agr {w w1 : World} {o : Obj} {g B C : Nat} (hg : (w.alloc o).grownBy w1 (some g)) (h : g < B ∨ C ≤ g) (hC : C ≤ w.heap.size) : Agr B C w w1 :=
  fun k h1 h2 => (hg.block k (by simp; omega) (fun e => by injection e with e; omega)).trans (Below.heap_alloc _ _ _ (by omega))
theorem grown_one {w w1 : World} {o x : Obj} {g k : Nat} (hg : (w.alloc o).grownBy w1 (some g)) (hb : w.heap[k]? = some x) (h : g ≠ k) : w1.heap[k]? = some x :=
  (hg.block k (by have := blk_lt hb; simp; omega) (fun e => by injection e with e; omega)).trans (blk_old hb)
theorem OwI.setOther {w : World} {E B C g cap k i : Nat} {l : List Int} {v : Value} (h : OwI w E B C (some ⟨g, 0, none⟩) cap l) (hk : g ≠ k) : OwI (w.setCell ⟨k, i, none⟩ v) E B C (some ⟨g, 0, none⟩) cap l :=
  h.keep (S := fun x => x = k) ((Chg.refl (fun x => x = k) w).set (.inl rfl) v) (fun b hb e => by simp [blockOf] at hb; omega)
end Go.Hyp
namespace Go.Proofs.YtfjodcfbhpglhaaGreatDoor
open Go.RowKit Go.Hyp Go.Deep

set_option maxRecDepth 4000 in
set_option maxHeartbeats 1200000 in
theorem place_any (jb bb ob fb BX CX : Nat) (X : List (List Int)) (hs : Sq X) (h1 : 1 ≤ X.length) (h5 : X.length ≤ 5) (hBX : BX ≤ jb) :
    ∀ (k : Nat) (o : List Int) (b : List (List Int)) (w : World), PartO o X.length → o.length + k = X.length → 1 ≤ o.length → o.getD 0 0 = 0 → Sq b → b.length = X.length → PlaceSt 3 35 22 1 89 jb bb ob fb BX CX X o b w →
    Calls Tryz.prog 89 (#[] ++ #[.pointer (some ⟨ob, 0, none⟩), .pointer (some ⟨jb, 0, none⟩), .pointer (some ⟨bb, 0, none⟩), .pointer (some ⟨fb, 0, none⟩)]) w fun e w' =>
      e = .returned (.tuple #[]) ∧ PlaceSt 3 35 22 1 89 jb bb ob fb BX CX X o ((comp X.length k o).foldl (better X) b) w' ∧ Below jb w w' := by
  intro k
  induction k with
  | zero =>
    intro o b w hpo hlen ho1 ho0 hbs hbl hst
    obtain ⟨ja, jc, ba, bc, g, oc, Bb, Cb, hj, hb, ho, hf, hx, hcx, hbr, hcb, hsep, how, hgo, hgf, hgb, l1, l2, l3, l4⟩ := hst
    obtain ⟨j1, _⟩ := blk1 hj
    obtain ⟨b1, _⟩ := blk1 hb
    obtain ⟨o1, _⟩ := blk1 ho
    have hzf : fb < w.heap.size := blk_lt hf
    have hord : isOrdB o X.length = true := isOrd_iff.2 ⟨by omega, fun i hi => by
      obtain ⟨v, e, hv⟩ := hpo.2 (o[i]'(by omega)) (List.getElem_mem _)
      exact ⟨v, by rw [getD_lt (by omega)]; exact e, hv⟩, hpo.1⟩
    have HX := Lib.hid hx
    have HO := Lib.hid how
    have HS := Lib.hid hs
    have HORD := Lib.hid hord
    have hon : o.length = X.length := by omega
    rw [hon] at o1
    have HON := Lib.hid hon
    clear hx how hs hord hon hlen ho0
    go_enter Tryz.func89, Tryz.ntmps89
    go_wp2_with fail
    refine (reordered_any ja (some ⟨g, 0, none⟩) jc oc X o w BX CX _ _ HX.out HO.out.rd (by omega) (Nat.le_refl _) HS.out (by omega) HORD.out X.length rfl).mono ?_
    rintro e w1 ⟨qa, qc, rfl, hq, hb1⟩
    have hz1 : w.heap.size ≤ w1.heap.size := hb1.size
    have HT1 : Hid (∀ (W : World) (B C : Nat), RdII W B C qa (reordL X o) → C ≤ W.heap.size → Calls Tryz.prog 91 #[.slice qa X.length qc] W fun e w' => e = .returned (.string ⟨(textP (reordL X o)).toArray⟩) ∧ Below W.heap.size W w') := Lib.hid fun W B C h hC => by
      have := implText_any qa qc (reordL X o) W B C h hC (reordL_sq _ _) (by rw [reordL_len]; omega) (by rw [reordL_len]; omega)
      rwa [reordL_len] at this
    have HT2 : Hid (∀ (W : World) (B C : Nat), RdII W B C ba b → C ≤ W.heap.size → Calls Tryz.prog 91 #[.slice ba X.length bc] W fun e w' => e = .returned (.string ⟨(textP b).toArray⟩) ∧ Below W.heap.size W w') := Lib.hid fun W B C h hC => by
      have := implText_any ba bc b W B C h hC hbs (by omega) (by omega)
      rwa [hbl] at this
    have HQ := Lib.hid hq.rd
    have HBR0 := Lib.hid hbr
    have HQW := Lib.hid hq
    have HB1 := Lib.hid hb1
    have HBR1 := Lib.hid (hbr.rd.below hb1 hcb)
    have b1' := (bcell hb1).1 bb 0 (by omega)
    rw [b1] at b1'
    have hcb1 : Cb ≤ w1.heap.size := by omega
    have hbw1 : bb < w1.heap.size := by omega
    clear hq hb1 hbr j1 o1 b1
    obtain ⟨t1, ht1⟩ : ∃ t1, t1 = textP (reordL X o) := ⟨_, rfl⟩
    obtain ⟨t2, ht2⟩ : ∃ t2, t2 = textP b := ⟨_, rfl⟩
    rw [← ht1] at HT1
    rw [← ht2] at HT2
    have HE1 := Lib.hid ht1
    have HE2 := Lib.hid ht2
    clear ht1 ht2 hbl
    go_wp2_with fail
    go_region_held3 (fun w' => w'.cell? ⟨bb, 0, none⟩ = some (.slice ba X.length bc)) (go_keep)
      (first
        | (have H6x := HQT
           clear H6x
           go_at_call 91
           go_loud (
           refine (HT2.out _ _ _ (by exact HBR2.out) (by exact hcb2)).mono ?_
           rintro e w3 ⟨rfl, hb3⟩
           have b3' := (bcell hb3).1 bb 0 hbw2
           rw [b2'] at b3'
           have HB3 := Lib.hid (HB2.out.trans (hb3.mono hz2))
           have HQ3 := Lib.hid (HQT.out.below hb3 hz12)
           have hz13 : w1.heap.size ≤ w3.heap.size := by have := hb3.size; omega
           clear hb3))
        | (go_at_call 91
           go_loud (
           refine (HT1.out _ _ _ (by exact HQ.out) (by exact Nat.le_refl _)).mono ?_
           rintro e w2 ⟨rfl, hb2⟩
           replace hb2 := undrew hb2
           have HQT := Lib.hid (HQW.out.below hb2 (Nat.le_refl _))
           have HBR2 := Lib.hid (HBR1.out.below hb2 hcb1)
           have hz2 : w.heap.size ≤ w2.heap.size := by have := hb2.size; omega
           have hz12 : w1.heap.size ≤ w2.heap.size := by have := hb2.size; omega
           have hbw2 : bb < w2.heap.size := by have := hb2.size; omega
           have hcb2 : Cb ≤ w2.heap.size := by have := hb2.size; omega
           have b2' := (bcell hb2).1 bb 0 hbw1
           rw [b1'] at b2'
           have HB2 := Lib.hid (HB1.out.trans (hb2.mono hz1))
           clear hb2)))
    all_goals
      have hz3 : w.heap.size ≤ w3.heap.size := HB3.out.size
      cases hlx : Op.bytesLess t1 t2
      · have HF : Hid (([o] : List (List Int)).foldl (better X) b = b) := Lib.hid (by
          show better X b o = b
          unfold better
          rw [← HE1.out, ← HE2.out, hlx]; rfl)
        go_wp2_with fail
        refine bodyPost_ret (v := .tuple #[]) (by simp [results, Tryz.results89, go_sem]) rfl ⟨rfl, ?_, HB3.out.mono (by omega)⟩
        rw [comp_zero, HF.out]
        exact ⟨ja, jc, ba, bc, g, oc, Bb, Cb, HB3.out.blk hj (by omega), HB3.out.blk hb (by omega), HB3.out.blk ho (by omega), HB3.out.blk hf (by omega), HX.out.below HB3.out (by omega), hcx, HBR0.out.below HB3.out hcb, by omega, hsep, (HO.out.below HB3.out (Nat.le_refl _)).mono (Nat.le_refl _) hz3, hgo, hgf, hgb, l1, l2, l3, l4⟩
      · have HF : Hid (([o] : List (List Int)).foldl (better X) b = reordL X o) := Lib.hid (by
          show better X b o = _
          unfold better
          rw [← HE1.out, ← HE2.out, hlx]; rfl)
        have HJ3 := Lib.hid (HB3.out.blk hj (by omega))
        have HBB3 := Lib.hid (HB3.out.blk hb (by omega))
        have HOB3 := Lib.hid (HB3.out.blk ho (by omega))
        have HFB3 := Lib.hid (HB3.out.blk hf (by omega))
        obtain ⟨c1, c2⟩ := blk1 HBB3.out
        go_wp2_with fail
        refine bodyPost_ret (v := .tuple #[]) (by simp [results, Tryz.results89, go_sem]) rfl ⟨rfl, ?_, (HB3.out.mono (show jb ≤ w.heap.size by omega)).setCell (show jb ≤ bb by omega) _⟩
        rw [comp_zero, HF.out]
        refine ⟨ja, jc, qa, qc, g, oc, w.heap.size, w1.heap.size, ?_, ?_, ?_, ?_, ?_, hcx, HQ3.out.agr ((Agr.refl _ _ _).set (by first | omega | (dsimp only; omega)) _), by simp; omega, .inr hzf, ((HO.out.below HB3.out (Nat.le_refl _)).mono (Nat.le_refl _) (by simp; omega)).agr ((Agr.refl _ _ _).set (by first | omega | (dsimp only; omega)) _), hgo, hgf, .inl (HO.out.block_in rfl).2, l1, l2, l3, by omega⟩
        · refine (Below.heap_setCell _ _ _ _ ?_).trans HJ3.out
          dsimp only
          omega
        · exact blk_set (.slice qa X.length qc) (i := 0) HBB3.out
        · refine (Below.heap_setCell _ _ _ _ ?_).trans HOB3.out
          dsimp only
          omega
        · refine (Below.heap_setCell _ _ _ _ ?_).trans HFB3.out
          dsimp only
          omega
        · have hxx := HX.out.below HB3.out (show CX ≤ w.heap.size by omega)
          exact hxx.agr ((Agr.refl _ _ _).set (.inr (by omega)) _)
  | succ k ih =>
    intro o b w hpo hlen ho1 ho0 hbs hbl hst
    have HIH := Lib.hid ih
    have HST0 := Lib.hid hst
    have HPO := Lib.hid hpo
    have HBS := Lib.hid hbs
    have HBL := Lib.hid hbl
    have HO0 := Lib.hid ho0
    have HS := Lib.hid hs
    have HLEN := Lib.hid hlen
    have hle : o.length < X.length := by omega
    have hne : ((o.length : Int) == (X.length : Int)) = false := beq_eq_false_iff_ne.2 (by omega)
    obtain ⟨ja, jc, ba, bc, g, oc, Bb, Cb, hj, hb, ho, hf, hx, hcx, hbr, hcb, hsep, how, hgo, hgf, hgb, l1, l2, l3, l4⟩ := hst
    obtain ⟨j1, _⟩ := blk1 hj
    obtain ⟨o1, _⟩ := blk1 ho
    have hzf : fb < w.heap.size := blk_lt hf
    clear ih hpo hbs hbl ho0 hs hlen hj hb ho hf hx hcx hbr hcb hsep how hgo hgf hgb
    go_enter Tryz.func89, Tryz.ntmps89
    go_wp2_with fail
    clear hne j1 o1
    go_loopw [22] (fun ti wr => ∃ t : Nat, t ≤ X.length ∧ ti = .int .i64 t ∧ PlaceSt 3 35 22 1 89 jb bb ob fb BX CX X o ((compU X.length k o t).foldl (better X) b) wr ∧ Below jb w wr) (fun ti _ => X.length - (intOf ti).toNat)
    case atStart => exact ⟨0, Nat.zero_le _, rfl, HST0.out, Below.refl _ _⟩
    case round =>
      obtain ⟨t, ht, rfl, hst, hbw⟩ := hrel
      have HST := Lib.hid hst
      have HBW := Lib.hid hbw
      clear hst hbw HST0
      obtain ⟨wq, hwq⟩ : ∃ x, x = wr := ⟨_, rfl⟩
      subst hwq
      by_cases hlt : t < X.length
      · have hti : (t : Int) < (X.length : Int) := by omega
        obtain ⟨ja, jc, ba, bc, g, oc, Bb, Cb, hj, hb, ho, hf, hx, hcx, hbr, hcb, hsep, how, hgo, hgf, hgb, _, _, _, hbx⟩ := HST.out
        obtain ⟨o1, o2⟩ := blk1 ho
        obtain ⟨f1, _⟩ := blk1 hf
        have hzf : fb < wq.heap.size := blk_lt hf
        have HO := Lib.hid how
        by_cases hm : ((t : Nat) : Int) ∈ o
        · have HC := Lib.hid (contains_any (some ⟨g, 0, none⟩) oc o t wq _ _ HO.out.rd (by omega))
          rw [decide_eq_true hm] at HC
          have HM := Lib.hid (compU_yes (n := X.length) (k := k) hm)
          clear hj hb ho hf hx hbr how hgo hgf hgb hm
          go_wp2_with (go_at_call 92; refine HC.out.mono ?_; rintro e w' ⟨rfl, rfl⟩)
          go_roundw
          case rel => exact ⟨t + 1, by omega, by go_num, by rw [HM.out]; exact HST.out, HBW.out⟩
          case measure => simp [intOf]; omega
        · have HC := Lib.hid (contains_any (some ⟨g, 0, none⟩) oc o t wq _ _ HO.out.rd (by omega))
          rw [decide_eq_false hm] at HC
          have HM := Lib.hid (compU_no (n := X.length) (k := k) hm)
          have HPN := Lib.hid (HPO.out.snoc hlt hm)
          have HJ := Lib.hid hj
          have HBB := Lib.hid hb
          have HOB := Lib.hid ho
          have HF := Lib.hid hf
          have HX := Lib.hid hx
          have HBR := Lib.hid hbr
          have HGB := Lib.hid hgb
          have HGO := Lib.hid hgo
          have HGF := Lib.hid hgf
          obtain ⟨BT, hBT⟩ : ∃ BT, BT = (compU X.length k o t).foldl (better X) b := ⟨_, rfl⟩
          rw [← hBT] at HBR HST
          have HBT := Lib.hid hBT
          have HBTS := Lib.hid (best_sq ⟨HBS.out, HBL.out⟩ (compU X.length k o t))
          rw [← hBT] at HBTS
          clear hj hb ho hf hx hbr how hgo hgf hgb hm hBT HST
          go_wp2_with (first
            | (go_at_call 92; refine HC.out.mono ?_; rintro e w' ⟨rfl, rfl⟩)
            | (at_builtin
               go_loud (
               refine wpList_appI Tryz.underlying35 Tryz.infoInt _ rfl _ _ rfl (bb + 1) wq.heap.size (some ⟨g, 0, none⟩) oc o rfl (HO.out.agr ((Agr.refl _ _ _).alloc (Nat.le_refl _) _)) (by simp; omega) ⟨wq.heap.size, 0, none⟩ t rfl (new_cellE _ _ _ rfl) (by omega) ?_
               intro g2 c2 w2 hown hgrow hat hg2
               have hgin : bb + 1 ≤ g ∧ g < wq.heap.size := HO.out.block_in rfl
               have hgrow' := hgrow
               have hbk : blockOf (some (⟨g, 0, none⟩ : Addr)) = some g := rfl
               rw [hbk] at hgrow'
               have hz2 : wq.heap.size + 1 ≤ w2.heap.size := by have := hgrow.size; simpa using this
               have JB2 := Lib.hid (grown_one hgrow' HJ.out (by omega))
               have BB2 := Lib.hid (grown_one hgrow' HBB.out (by omega))
               have OB2 := Lib.hid (grown_one hgrow' HOB.out HGO.out)
               have FB2 := Lib.hid (grown_one hgrow' HF.out HGF.out)
               have X2 := Lib.hid (HX.out.agr (grown_agr hgrow' (.inr (by omega)) (by omega)))
               have BR2 := Lib.hid (HBR.out.agr (grown_agr hgrow' HGB.out hcb))
               have HB2 : Hid (Below jb wq w2) := Lib.hid (below_app (D := bb + 1) (Below.refl jb wq) hgrow (fun k e => by rw [hbk] at e; injection e with e; omega) (by omega) (by omega))
               have hn2 : g2 ≠ ob ∧ g2 ≠ fb ∧ (g2 < Bb ∨ Cb ≤ g2) := by
                 rcases hat with h | h
                 · rw [hbk] at h
                   injection h with h
                   subst h
                   exact ⟨HGO.out, HGF.out, HGB.out⟩
                 · have h' : g2 = wq.heap.size + 1 := by simpa using h
                   exact ⟨by omega, by omega, .inr (by omega)⟩
               have HN2 := Lib.hid hn2
               have HO2 := Lib.hid hown
               have hl1 : (o ++ [(t : Int)]).length = o.length + 1 := by simp
               have hst3 : PlaceSt 3 35 22 1 89 jb bb ob fb BX CX X (o ++ [(t : Int)]) BT (w2.setCell ⟨ob, 0, none⟩ (.slice (some ⟨g2, 0, none⟩) (o.length + 1) c2)) := by
                 refine ⟨ja, jc, ba, bc, g2, c2, Bb, Cb, ?_, ?_, ?_, ?_, ?_, hcx, ?_, ?_, hsep, ?_, HN2.out.1, HN2.out.2.1, HN2.out.2.2, l1, l2, l3, hbx⟩
                 · exact (Below.heap_setCell _ _ _ _ (by dsimp only; omega)).trans JB2.out
                 · exact (Below.heap_setCell _ _ _ _ (by dsimp only; omega)).trans BB2.out
                 · rw [hl1]; exact blk_set (.slice (some ⟨g2, 0, none⟩) (o.length + 1) c2) (i := 0) OB2.out
                 · exact (Below.heap_setCell _ _ _ _ (by dsimp only; omega)).trans FB2.out
                 · exact X2.out.agr ((Agr.refl _ _ _).set (.inr (by omega)) _)
                 · exact BR2.out.agr ((Agr.refl _ _ _).set (by omega) _)
                 · simp; omega
                 · exact (HO2.out.setOther HN2.out.1).mono (Nat.le_refl _) (by simp)
               have HC2 := Lib.hid (HIH.out (o ++ [(t : Int)]) BT _ HPN.out (by have := HLEN.out; omega) (by omega) (by rw [getD_lt (by omega), List.getElem_append_left (by omega)]; have := HO0.out; rwa [getD_lt (by omega)] at this) HBTS.out.1 HBTS.out.2 hst3)
               obtain ⟨p1, p2⟩ := blk1 OB2.out
               obtain ⟨p3, _⟩ := blk1 FB2.out
               have hob2 : ob < w2.heap.size := by omega
               have hfb2 : fb < w2.heap.size := by omega
               have HL1 := Lib.hid hl1
               clear hst3 hown hgrow hgrow' hat hn2 hbk hl1 o1 o2 f1)))
          refine HC2.out.mono ?_
          rintro e w4 ⟨rfl, hst4, hb4⟩
          have HST4 := Lib.hid hst4
          have HB4 := Lib.hid hb4
          clear hst4 hb4 p1 p2 p3
          obtain ⟨ja4, jc4, ba4, bc4, g4, oc4, Bb4, Cb4, hj4, hbb4, hob4, hf4, hx4, hcx4, hbr4, hcb4, hsep4, how4, hgo4, hgf4, hgb4, _, _, _, hbx4⟩ := HST4.out
          obtain ⟨N, hN⟩ : ∃ N, N = (o ++ [(t : Int)]).length := ⟨_, rfl⟩
          have hN1 : N = o.length + 1 := hN.trans HL1.out
          have hcap4 : (o ++ [(t : Int)]).length ≤ oc4 := how4.lecap
          rw [← hN] at hob4 hcap4
          obtain ⟨q1, q2⟩ := blk1 hob4
          have i1 : (N : Int) - 1 = (o.length : Int) := by omega
          have i2 : 1 ≤ N := by omega
          have i3 : o.length ≤ oc4 := by omega
          have i4 : o.length < N := by omega
          have i5 : (o.length : Int) < (N : Int) := by omega
          have hcm4 := how4.capmax
          have hob4z : ob < w4.heap.size := blk_lt hob4
          have J4 := Lib.hid hj4
          have BB4 := Lib.hid hbb4
          have OB4 := Lib.hid hob4
          have FB4 := Lib.hid hf4
          have X4 := Lib.hid hx4
          have BR4 := Lib.hid hbr4
          have O4 := Lib.hid how4
          have G4 := Lib.hid (And.intro hgo4 (And.intro hgf4 hgb4))
          unfold maxLen at hcm4
          clear hN hN1 hj4 hbb4 hob4 hf4 hx4 hbr4 how4 hgo4 hgf4 hgb4
          go_wp2_with fail
          go_roundw
          case rel =>
            refine ⟨t + 1, by omega, by go_num, ?_, ((HBW.out.trans HB2.out).setCell (p := ⟨ob, 0, none⟩) (show jb ≤ ob by omega) _ |>.trans HB4.out).setCell (p := ⟨ob, 0, none⟩) (show jb ≤ ob by omega) _⟩
            rw [HM.out, best_app, ← HBT.out]
            refine ⟨ja4, jc4, ba4, bc4, g4, oc4, Bb4, Cb4, ?_, ?_, ?_, ?_, ?_, hcx4, ?_, ?_, hsep4, ?_, G4.out.1, G4.out.2.1, G4.out.2.2, l1, l2, l3, hbx4⟩
            · exact (Below.heap_setCell _ _ _ _ (by dsimp only; omega)).trans J4.out
            · exact (Below.heap_setCell _ _ _ _ (by dsimp only; omega)).trans BB4.out
            · exact blk_set (.slice (some ⟨g4, 0, none⟩) o.length oc4) (i := 0) OB4.out
            · exact (Below.heap_setCell _ _ _ _ (by dsimp only; omega)).trans FB4.out
            · exact X4.out.agr ((Agr.refl _ _ _).set (.inr (by omega)) _)
            · exact BR4.out.agr ((Agr.refl _ _ _).set (by omega) _)
            · simp; omega
            · have ht := O4.out.take o.length
              rw [List.take_left] at ht
              exact (ht.setOther G4.out.1).mono (Nat.le_refl _) (by simp)
          case measure => simp [intOf]; omega
      · obtain rfl : t = X.length := by omega
        go_wp2_with fail
        (try simp only [Exit.inBlock, Exit.then])
        refine bodyPost_end (v := .tuple #[]) (by simp [results, Tryz.results89, go_sem]) rfl ⟨rfl, ?_, HBW.out⟩
        rw [comp_succ]
        exact HST.out
end Go.Proofs.YtfjodcfbhpglhaaGreatDoor
