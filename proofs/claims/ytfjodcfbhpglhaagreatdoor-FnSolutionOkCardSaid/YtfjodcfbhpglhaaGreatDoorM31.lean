/- impl.leastOf, LeastOf, isLeast, LeastOk, walked. impl.withMembers and what calls it, walked. spec.l6Put, walked. -/
import Derived.Laws.EntriesVeiled
import Derived.Test.YtfjodcfbhpglhaaGreatDoorM29
import Derived.Test.YtfjodcfbhpglhaaGreatDoorM30
import Derived.Test.YtfjodcfbhpglhaaGreatDoorM22
import Derived.Test.YtfjodcfbhpglhaaGreatDoorM19
import Derived.Test.YtfjodcfbhpglhaaGreatDoorM21
namespace Go.Hyp
/-- What leastOf answers: the least picture, if it has not too many nodes. -/
def leastQ (p : List (List Int)) (i : Nat) : Bool := decide ((joinedL p i).length ≤ 5)
def leastN (p : List (List Int)) (i : Nat) : List (List Int) := if leastQ p i = true then leastC p i else []
theorem leastN_yes {p : List (List Int)} {i : Nat} (h : leastQ p i = true) : leastN p i = leastC p i := by unfold leastN; rw [h]; rfl
theorem leastN_no {p : List (List Int)} {i : Nat} (h : leastQ p i = false) : leastN p i = [] := by unfold leastN; rw [h]; rfl
theorem putR_N (P : List (List Int)) (m : Nat → Bool) : putR P m = leastN (putL P m) 0 := rfl
theorem putB_Q (P : List (List Int)) (m : Nat → Bool) : putB P m = leastQ (putL P m) 0 := rfl
theorem place_is {p : List (List Int)} {i : Nat} (hi : i < p.length) (h5 : (joinedL p i).length ≤ 5) : (comp (joinedL p i).length ((joinedL p i).length - 1) [0]).foldl (better (joinM p (joinedL p i))) (joinM p (joinedL p i)) = leastC p i := by
  have h1 := joined_pos hi
  have h := leastC_eq hi (by omega) (joinedL_fit hi) (placeL_least (joinM_sq p (joinedL p i)) h1)
  unfold placeL at h
  rwa [joinM_len] at h
end Go.Hyp
namespace Go.Proofs.YtfjodcfbhpglhaaGreatDoor
open Go.RowKit Go.Hyp Go.Deep

set_option maxRecDepth 4000 in
set_option maxHeartbeats 1200000 in
theorem leastOf_any (a : Option Addr) (cap : Nat) (p : List (List Int)) (i : Nat) (w : World) (B C : Nat) (h : RdII w B C a p) (hC : C ≤ w.heap.size) (hs : Sq p) (hi : i < p.length) (hl : p.length ≤ 1024) :
    Calls Tryz.prog 58 #[.slice a p.length cap, .int .i64 i] w (RetIIB 3 35 (leastN p i) (leastQ p i) w) := by
  have F := Lib.hid h
  have HS := Lib.hid hs
  have HLL := Lib.hid (joinM_len p (joinedL p i))
  have hpos := (joinedL_fit hi).pos
  have hle := (joinedL_fit hi).len
  clear h hs
  obtain ⟨X, hX⟩ : ∃ X, X = joinM p (joinedL p i) := ⟨_, rfl⟩
  have hXl : X.length = (joinedL p i).length := by rw [hX, joinM_len]
  have hXs : Sq X := by rw [hX]; exact joinM_sq _ _
  have HXS := Lib.hid hXs
  have HJ := Lib.hid (joinedOf_any a cap p i w B C F.out hC HS.out hi hl)
  rw [← hX] at HJ
  clear hXs
  cases hq : leastQ p i
  · have HN := Lib.hid (leastN_no hq)
    have h5 : ¬ (joinedL p i).length ≤ 5 := of_decide_eq_false hq
    have h5i : (5 : Int) < (X.length : Int) := by omega
    clear hq hXl hX
    go_enter Tryz.func58, Tryz.ntmps58
    go_wp2_with fail
    refine HJ.out.mono ?_
    rintro e w1 ⟨x, c, rfl, ho, hb⟩
    have HB := Lib.hid hb
    clear ho hb
    go_wp2_with fail
    go_ret2
    rw [HN.out]
    exact ⟨none, 0, rfl, OwII_nil _ _ _ _ _, HB.out.alloc HB.out.size _⟩
  · have HN := Lib.hid (leastN_yes hq)
    have h5 : (joinedL p i).length ≤ 5 := of_decide_eq_true hq
    have hX5 : X.length ≤ 5 := by omega
    have hX1 : 1 ≤ X.length := by omega
    have h5i : (X.length : Int) ≤ 5 := by omega
    have hpl := place_is hi h5
    rw [← hX, ← hXl] at hpl
    have HPL := Lib.hid hpl
    have HXE := Lib.hid hXl
    clear hq hXl hX hpl
    go_enter Tryz.func58, Tryz.ntmps58
    go_wp2_with fail
    refine HJ.out.mono ?_
    rintro e w1 ⟨x, c, rfl, ho, hb⟩
    have HB := Lib.hid hb
    have HO := Lib.hid ho
    have hz1 : w.heap.size ≤ w1.heap.size := hb.size
    clear ho hb
    go_upto_region 7 with (fail)
    obtain ⟨W, hW⟩ : ∃ W, W = ((((w1.alloc (.cells #[.slice x X.length c] 22)).alloc (.cells #[.slice x X.length c] 22)).alloc (.cells #[.int .i64 0] 3)).alloc (.cells #[.slice (some ⟨w1.heap.size + 1 + 1, 0, none⟩) 1 1] 35)).alloc (.cells #[.nilFunc] 1) := ⟨_, rfl⟩
    rw [← hW]
    have hJ1 : W.heap[w1.heap.size]? = some (.cells #[.slice x X.length c] 22 (0, 0)) := by rw [hW]; exact blk_old (blk_old (blk_old (blk_old (blk_new rfl))))
    have hB1 : W.heap[w1.heap.size + 1]? = some (.cells #[.slice x X.length c] 22 (0, 0)) := by rw [hW]; exact blk_old (blk_old (blk_old (blk_new (by simp))))
    have hO1 : W.heap[w1.heap.size + 1 + 1 + 1]? = some (.cells #[.slice (some ⟨w1.heap.size + 1 + 1, 0, none⟩) 1 1] 35 (0, 0)) := by rw [hW]; exact blk_old (blk_new (by simp))
    have hF1 : W.heap[w1.heap.size + 1 + 1 + 1 + 1]? = some (.cells #[.nilFunc] 1 (0, 0)) := by rw [hW]; exact blk_new (by simp)
    have hBW : Below w1.heap.size w1 W := by rw [hW]; exact ((((below_alloc w1 _).alloc (by simp) _).alloc (by simp; omega) _).alloc (by simp; omega) _).alloc (by simp; omega) _
    have hzW : W.heap.size = w1.heap.size + 5 := by rw [hW]; simp
    have hOW : OwI W 3 (w1.heap.size + 1 + 1) (w1.heap.size + 1 + 1 + 1) (some ⟨w1.heap.size + 1 + 1, 0, none⟩) 1 [0] := by
      have h := OwI_one ((w1.alloc (.cells #[.slice x X.length c] 22)).alloc (.cells #[.slice x X.length c] 22)) 3 0
      simp only [World.size_alloc] at h
      rw [hW]
      exact (h.below (below_alloc _ _) (by simp)).below (below_alloc _ _) (by simp)
    have hXW : OwII W 3 35 w.heap.size w1.heap.size x c X := HO.out.below hBW (Nat.le_refl _)
    obtain ⟨jb, hjb⟩ : ∃ n, n = w1.heap.size := ⟨_, rfl⟩
    rw [← hjb] at hJ1 hB1 hO1 hF1 hBW hOW hXW hzW hz1 ⊢
    obtain ⟨bb, hbb⟩ : ∃ n, n = jb + 1 := ⟨_, rfl⟩
    rw [← hbb] at hB1 hO1 hF1 hOW ⊢
    obtain ⟨gb, hgb⟩ : ∃ n, n = bb + 1 := ⟨_, rfl⟩
    rw [← hgb] at hO1 hF1 hOW ⊢
    obtain ⟨ob, hob⟩ : ∃ n, n = gb + 1 := ⟨_, rfl⟩
    rw [← hob] at hO1 hF1 hOW ⊢
    obtain ⟨fb, hfb⟩ : ∃ n, n = ob + 1 := ⟨_, rfl⟩
    rw [← hfb] at hF1 ⊢
    have hi1 : jb < bb := by omega
    have hi2 : bb < gb := by omega
    have hi3 : gb < ob := by omega
    have hi4 : ob < fb := by omega
    have hi5 : fb < W.heap.size := by omega
    have HJB := Lib.hid hjb
    obtain ⟨f1, f2⟩ := blk1 hF1
    have hst : PlaceSt 3 35 22 1 89 jb bb (ob) (fb) w.heap.size jb X [0] X (W.setCell ⟨fb, 0, none⟩ (.func (.func 89) #[] #[.pointer (some ⟨ob, 0, none⟩), .pointer (some ⟨jb, 0, none⟩), .pointer (some ⟨bb, 0, none⟩), .pointer (some ⟨fb, 0, none⟩)])) := by
      refine ⟨x, c, x, c, gb, 1, w.heap.size, jb, blk_set_other _ hJ1 (by omega), blk_set_other _ hB1 (by omega), blk_set_other _ hO1 (by omega), blk_set _ (i := 0) hF1, hXW.rd.agr ((Agr.refl _ _ _).set (.inr (by omega)) _), Nat.le_refl _, hXW.agr ((Agr.refl _ _ _).set (.inr (by omega)) _), by simp; omega, .inl (Nat.le_refl _), ?_, by omega, by omega, .inr (by omega), by omega, by omega, by omega, Nat.le_refl _⟩
      exact (hOW.setOther (by omega)).mono (by omega) (by simp; omega)
    have HP := Lib.hid (place_any jb bb (ob) (fb) w.heap.size jb X HXS.out hX1 hX5 hz1 (X.length - 1) [0] X _ (PartO.one hX1) (by simp; omega) (by simp) rfl HXS.out rfl hst)
    rw [HPL.out] at HP
    have HBW := Lib.hid hBW
    clear hW hJ1 hB1 hO1 hF1 hBW hOW hXW hst hzW hjb hbb hgb hob hfb
    go_wp2_with fail
    refine HP.out.mono ?_
    rintro e w2 ⟨rfl, hst, hb2⟩
    obtain ⟨ja, jc, ba, bc, g, oc, Bb, Cb, hj, hb, ho, hf, hx, hcx, hbr, hcb, hsep, _, _, _, _, _, _, _, hbx⟩ := hst
    obtain ⟨q1, _⟩ := blk1 hb
    have HR := Lib.hid hbr
    have HL := Lib.hid ((leastC_len hi).trans HXE.out.symm)
    have hbb2 : bb < w2.heap.size := blk_lt hb
    have HB2 : Hid (Below w.heap.size w w2) := Lib.hid (by
      have h1 := HB.out.trans (HBW.out.mono hz1)
      have h2 := (h1.setCell (p := ⟨fb, 0, none⟩) (show w.heap.size ≤ fb by omega) (.func (.func 89) #[] #[.pointer (some ⟨ob, 0, none⟩), .pointer (some ⟨jb, 0, none⟩), .pointer (some ⟨bb, 0, none⟩), .pointer (some ⟨fb, 0, none⟩)]))
      exact h2.trans (hb2.mono hz1))
    clear hj hb ho hf hx hbr hb2
    go_wp2_with fail
    go_ret2
    rw [HN.out, ← HL.out]
    exact ⟨ba, bc, rfl, HR.out.mono hbx hcb, HB2.out⟩

set_option maxRecDepth 4000 in
set_option maxHeartbeats 400000 in
theorem eqRowsF_any (a a' : Option Addr) (cap cap' : Nat) (p p' : List (List Int)) (w : World) (B C B' C' : Nat) (h : RdII w B C a p) (h' : RdII w B' C' a' p') (hl : p.length ≤ maxLen) :
    Calls Tryz.prog 100 #[.slice a p.length cap, .slice a' p'.length cap', .func (.func 101) #[] #[]] w fun e w' => e = .returned (.bool (decide (p = p'))) ∧ Qt w w' := by
  unfold maxLen at hl
  by_cases hlen : p.length = p'.length
  · have hb : (((p.length : Nat) : Int) != ((p'.length : Nat) : Int)) = false := by simp [hlen]
    have Hlen := Lib.hid hlen
    clear hlen
    go_enter Tryz.func100, Tryz.ntmps100
    go_wp2_with fail
    clear hb
    go_loopw [6, 17] (fun r i wr => ∃ k : Nat, k ≤ p.length ∧ r = .bool false ∧ i = .int .i64 k ∧ p.take k = p'.take k ∧ Qt w wr) (fun _ i _ => p.length - (intOf i).toNat)
    case atStart => exact ⟨0, Nat.zero_le _, rfl, rfl, rfl, Qt.refl _⟩
    case round =>
      obtain ⟨k, hk, rfl, rfl, he, hq⟩ := hrel
      have HE := Lib.hid he
      have HQ := Lib.hid hq
      clear he hq
      by_cases hlt : k < p.length
      · have hlt' : k < p'.length := by have := Hlen.out; omega
        obtain ⟨b, off, x, c, rfl, _, _, hc, hr, hll⟩ := (h.agr HQ.out.agr).at k hlt
        obtain ⟨b', off', x', c', rfl, _, _, hc', hr', hll'⟩ := (h'.agr HQ.out.agr).at k hlt'
        have hki : (k : Int) < (p.length : Int) := by omega
        have hki' : (k : Int) < (p'.length : Int) := by omega
        have HR := Lib.hid hr
        have HR' := Lib.hid hr'
        have hc := slicesEqual_any x x' c c' p[k] p'[k] wr B C B' C' HR.out HR'.out hll
        clear h h' hr hr'
        by_cases hx : p[k] = p'[k]
        · have HX := Lib.hid hx
          rw [decide_eq_true hx] at hc
          have HC := Lib.hid hc
          clear hx hc
          go_wp2_with fail
          refine HC.out.mono ?_
          rintro e w2 ⟨rfl, hq2⟩
          have HQ2 := Lib.hid (HQ.out.trans hq2)
          clear hq2
          go_wp2_with fail
          go_roundw
          case rel => exact ⟨k + 1, by omega, rfl, by go_num, take_eq_succ hlt hlt' HE.out HX.out, HQ2.out⟩
          case measure => simp [intOf]; omega
        · have HX := Lib.hid hx
          rw [decide_eq_false hx] at hc
          have HC := Lib.hid hc
          clear hx hc
          go_wp2_with fail
          refine HC.out.mono ?_
          rintro e w2 ⟨rfl, hq2⟩
          have HQ2 := Lib.hid (HQ.out.trans hq2)
          clear hq2
          go_wp2_with fail
          go_ret
          exact ⟨ret_bool (by rw [decide_eq_false]; exact fun e => HX.out (by simp [e])), HQ2.out⟩
      · go_wp2_with fail
        go_ret
        exact ⟨ret_bool (by rw [decide_eq_true]; have e := HE.out; have := Hlen.out; rwa [List.take_of_length_le (by omega), List.take_of_length_le (by omega)] at e), HQ.out⟩
  · have hb : (((p.length : Nat) : Int) != ((p'.length : Nat) : Int)) = true := by simp; omega
    have hne : p ≠ p' := fun e => hlen (by rw [e])
    go_enter Tryz.func100, Tryz.ntmps100
    go_wp2_with fail
    go_ret
    exact ⟨ret_bool (by simp [hne]), Qt.refl _⟩

set_option maxRecDepth 4000 in
set_option maxHeartbeats 400000 in
theorem isLeast_any (a : Option Addr) (cap : Nat) (p : List (List Int)) (w : World) (B C : Nat) (h : RdII w B C a p) (hC : C ≤ w.heap.size) (hp : picB p = true) :
    Calls Tryz.prog 69 #[.slice a p.length cap] w fun e w' => e = .returned (.bool (leastB p)) ∧ Below w.heap.size w w' := by
  have F := Lib.hid h
  have h5 := (picB_sq hp).2
  have hq : leastQ p 0 = true := decide_eq_true (by have := (joinedL_fit (p := p) (i := 0) (by omega)).len; omega)
  have hd := leastOf_any a cap p 0 w B C F.out hC (picB_sq hp).1 (by omega) (by omega)
  rw [leastN_yes hq, hq] at hd
  have hlen : (leastC p 0).length ≤ 5 := by rw [leastC_len (by omega)]; exact of_decide_eq_true hq
  have HB : Hid (leastB p = decide (leastC p 0 = p)) := Lib.hid (by unfold leastB; rw [hp]; rfl)
  have HD := Lib.hid hd
  clear h hp hq hd
  go_enter Tryz.func69, Tryz.ntmps69
  go_wp2_with fail
  refine HD.out.mono ?_
  rintro e w1 ⟨x, c, rfl, ho, hb1⟩
  have HO := Lib.hid ho.rd
  have HB1 := Lib.hid hb1
  have F1 := Lib.hid (F.out.below hb1 hC)
  clear ho hb1
  go_wp2_with fail
  refine (eqRowsF_any x a c cap _ _ w1 _ _ _ _ HO.out F1.out (by unfold maxLen; omega)).mono ?_
  rintro e w2 ⟨rfl, hq⟩
  have HQ := Lib.hid (HB1.out.trans hq.below)
  clear hq
  rw [← HB.out]
  go_wp2_with fail
  go_ret
  exact ⟨rfl, HQ.out⟩

set_option maxRecDepth 4000 in
set_option maxHeartbeats 400000 in
theorem implLeastOk_any (a : Option Addr) (cap : Nat) (p : List (List Int)) (w : World) (B C : Nat) (h : RdII w B C a p) (hC : C ≤ w.heap.size) (hl : p.length ≤ maxLen) :
    Calls Tryz.prog 22 #[.slice a p.length cap] w fun e w' => e = .returned (.bool (leastB p)) ∧ Below w.heap.size w w' := by
  have F := Lib.hid h
  clear h
  cases hp : picB p
  · have HP := Lib.hid hp
    have HB : Hid (leastB p = false) := Lib.hid (by unfold leastB; rw [hp]; rfl)
    clear hp
    go_enter Tryz.func22, Tryz.ntmps22
    go_wp2_with fail
    refine (isPicture_any a cap p w _ _ F.out hl).mono ?_
    rintro e w' ⟨rfl, rfl⟩
    rw [HP.out]
    go_wp2_with fail
    go_ret
    exact ⟨ret_bool HB.out.symm, Below.refl _ _⟩
  · have HP := Lib.hid hp
    have HD := Lib.hid (isLeast_any a cap p w _ _ F.out hC hp)
    clear hp
    go_enter Tryz.func22, Tryz.ntmps22
    go_wp2_with fail
    refine (isPicture_any a cap p w _ _ F.out hl).mono ?_
    rintro e w' ⟨rfl, rfl⟩
    rw [HP.out]
    go_wp2_with fail
    refine HD.out.mono ?_
    rintro e w1 ⟨rfl, hb⟩
    have HB1 := Lib.hid hb
    clear hb
    go_wp2_with fail
    go_ret
    exact ⟨rfl, HB1.out⟩
end Go.Proofs.YtfjodcfbhpglhaaGreatDoor
namespace Go.Hyp
open Go.RowKit Go.Deep
theorem bes_one (P : List (List Int)) : besL (mat 1 1 fun _ _ => false) P = mat (P.length + 1) (P.length + 1) (putF P fun _ => false) := by
  unfold besL
  rw [mat_len, Nat.add_comm 1 P.length]
  refine mat_congr fun i j hi hj => ?_
  unfold besF putF
  rw [mat_len]
  by_cases h0 : i = 0
  · subst h0
    rw [if_pos (by omega), if_pos rfl, Bool.and_false]
    by_cases hj0 : j < 1
    · rw [mat_arr _ _ _ _ _ (by omega) hj0, Bool.and_false]
    · rw [decide_eq_false hj0]; rfl
  · rw [if_neg (by omega), if_neg h0]
/-- The members that a list names. -/
def inF (L : List Int) (v : Nat) : Bool := decide ((v : Int) ∈ L)
theorem inF_nil : inF [] = fun _ => false := by funext v; simp [inF]
theorem putF_step {P : List (List Int)} {L : List Int} {k v : Nat} (hk : k < L.length) (hv : L[k] = (v : Int)) (x y : Nat) : putF P (inF (L.take (k + 1))) x y = if x = 0 ∧ y = v + 1 then true else putF P (inF (L.take k)) x y := by
  unfold putF
  by_cases hx : x = 0
  · rw [if_pos hx, if_pos hx]
    by_cases hy : y = v + 1
    · rw [if_pos ⟨hx, hy⟩, decide_eq_true (by omega), Bool.true_and]
      unfold inF
      rw [List.take_succ_eq_append_getElem hk, hv]
      exact decide_eq_true (by rw [show y - 1 = v by omega]; simp)
    · rw [if_neg (fun h => hy h.2)]
      by_cases h1 : 1 ≤ y
      · rw [decide_eq_true h1, Bool.true_and, Bool.true_and]
        unfold inF
        rw [List.take_succ_eq_append_getElem hk, hv]
        rw [Bool.eq_iff_iff, decide_eq_true_eq, decide_eq_true_eq, List.mem_append]
        constructor
        · rintro (h | h)
          · exact h
          · simp at h; omega
        · exact .inl
      · rw [decide_eq_false h1]; rfl
  · rw [if_neg hx, if_neg hx, if_neg (fun h => hx h.1)]
/-- What PairOf answers. -/
def pairQ (p : List (List Int)) (n : Int) (q : List (List Int)) (m : Int) : Bool := nodeB p n && nodeB q m && pairB p n.toNat q m.toNat
def pairS (p : List (List Int)) (n : Int) (q : List (List Int)) (m : Int) : List (List Int) := if (nodeB p n && nodeB q m) = true then pairR p n.toNat q m.toNat else []
theorem pairs_no {p q : List (List Int)} {n m : Int} (h : (nodeB p n && nodeB q m) = false) : pairQ p n q m = false ∧ pairS p n q m = [] := by
  unfold pairQ pairS; rw [h]; exact ⟨rfl, rfl⟩
theorem pairs_yes {p q : List (List Int)} {i j : Nat} (h : nodeB p i = true) (k : nodeB q j = true) : pairQ p i q j = pairB p i q j ∧ pairS p i q j = pairR p i q j := by
  unfold pairQ pairS; rw [h, k, Int.toNat_natCast, Int.toNat_natCast]; exact ⟨rfl, rfl⟩
theorem pair_in {p q : List (List Int)} {i j : Nat} : putB (besL p q) (inF [(i : Int), ((p.length : Int) + (j : Int))]) = pairB p i q j ∧ putR (besL p q) (inF [(i : Int), ((p.length : Int) + (j : Int))]) = pairR p i q j :=
  putR_alike fun v _ => by
    unfold inF pairF
    rw [Bool.eq_iff_iff]
    simp
    omega
theorem pairOf_small (p : List (List Int)) (n : Int) (q : List (List Int)) (m : Int) : (pairS p n q m).length ≤ 1048576 ∧ lens (pairS p n q m) ≤ 1048576 := by
  unfold pairS
  split
  · exact putR_small _ _
  · exact ⟨by simp, by show 0 ≤ _; omega⟩
end Go.Hyp
namespace Go.Proofs.YtfjodcfbhpglhaaGreatDoor
open Go.RowKit Go.Hyp Go.Deep

set_option maxRecDepth 4000 in
set_option maxHeartbeats 800000 in
theorem withMembers_any (a : Option Addr) (cap : Nat) (P : List (List Int)) (al : Option Addr) (cl : Nat) (L : List Int) (w : World) (B C B' C' : Nat) (h : RdII w B C a P) (hC : C ≤ w.heap.size) (hs : Sq P) (hl : P.length ≤ 16)
    (h' : RdI w B' C' al L) (hC' : C' ≤ w.heap.size) (hL : ∀ k (hk : k < L.length), ∃ v : Nat, L[k] = v ∧ v < P.length) (hll : L.length ≤ 64) :
    Calls Tryz.prog 50 #[.slice a P.length cap, .slice al L.length cl] w (RetIIB 3 35 (putR P (inF L)) (putB P (inF L)) w) := by
  have F := Lib.hid h
  have F' := Lib.hid h'
  have HS := Lib.hid hs
  have HLM := Lib.hid hL
  have HE0 := Lib.hid (emptyPicture_any 1 w (by omega))
  clear h h' hs hL
  go_enter Tryz.func50, Tryz.ntmps50
  go_wp2_with fail
  refine HE0.out.mono ?_
  rintro e w1 ⟨x, c, rfl, ho, hb⟩
  rw [mat_len]
  have HB1 := Lib.hid hb
  have HX := Lib.hid ho.rd
  have F1 := Lib.hid (F.out.below hb hC)
  have hz1 : w.heap.size ≤ w1.heap.size := hb.size
  clear ho hb HE0
  have hbes := beside_any x c (mat 1 1 fun _ _ => false) a cap P w1 _ _ _ _ HX.out (Nat.le_refl _) (mat_sq _ _) F1.out (by omega) HS.out (by rw [mat_len]; omega)
  rw [mat_len, bes_one] at hbes
  have HBES := Lib.hid hbes
  clear hbes
  go_wp2_with fail
  refine HBES.out.mono ?_
  intro e w2 hret
  obtain ⟨y, d, rfl, ho, hb⟩ := hret.toM
  obtain ⟨N, hN⟩ : ∃ N, N = P.length + 1 := ⟨_, rfl⟩
  rw [← hN] at ho ⊢
  have HB2 := Lib.hid (HB1.out.trans (hb.mono hz1))
  have HO2 := Lib.hid (ho.mono hz1 (Nat.le_refl _))
  have hNN : N ≤ 17 := by omega
  have HN := Lib.hid hN
  have hN0 : 0 < N := by omega
  clear ho hb hret hN HBES
  go_wp2_with fail
  go_loopw [14] (fun i wr => ∃ k : Nat, k ≤ L.length ∧ i = .int .i64 k ∧ OwII wr 3 35 w.heap.size wr.heap.size y d (mat N N (putF P (inF (L.take k)))) ∧ Below w.heap.size w wr) (fun i _ => L.length - (intOf i).toNat)
  case atStart => exact ⟨0, Nat.zero_le _, rfl, by rw [List.take_zero, inF_nil]; exact HO2.out, HB2.out⟩
  case round =>
    obtain ⟨k, hk, rfl, ho, hb⟩ := hrel
    have HO := Lib.hid ho
    have HB := Lib.hid hb
    have hzr : w.heap.size ≤ wr.heap.size := hb.size
    clear ho hb HO2
    obtain ⟨wq, hwq⟩ : ∃ x, x = wr := ⟨_, rfl⟩
    subst hwq
    by_cases hlt : k < L.length
    · have hki : (k : Int) < (L.length : Int) := by omega
      obtain ⟨v, hv, hvP⟩ := HLM.out k hlt
      obtain ⟨b, off, rfl, _, hbC, hd⟩ := (F'.out.below HB.out hC').at k hlt
      rw [hv] at hd
      have hvN : v + 1 < N := by have := HN.out; omega
      have hvi : (v : Int) + 1 < (N : Int) := by omega
      obtain ⟨g, r, ci, ea5, hg1, _, hgl, hhead, hr1, _, hrl, hq1, hq2, hgr, hput⟩ := HO.out.bitAt 0 (v + 1) hN0 hvN
      have HP := Lib.hid (hput true (putF P (inF (L.take (k + 1)))) (fun x y _ _ => putF_step hlt hv x y))
      have hbw : b < wq.heap.size := by omega
      have hN0i : (0 : Int) < (N : Int) := by omega
      subst ea5
      clear hv hput
      generalize hxx : (if putF P (inF (L.take k)) 0 (v + 1) = true then (1 : Int) else 0) = X0 at hq1
      clear hxx
      go_wp2_with fail
      go_roundw
      case rel =>
        have h9 := HP.out
        simp only [if_true] at h9
        exact ⟨k + 1, by omega, by go_num, h9.mono (Nat.le_refl _) (by simp), HB.out.setCell hr1 _⟩
      case measure => simp [intOf]; omega
    · obtain rfl : k = L.length := by omega
      have hlo := leastOf_any y d (putL P (inF L)) 0 wq w.heap.size wq.heap.size (by
        have h9 := HO.out.rd
        rw [List.take_of_length_le (Nat.le_refl _), HN.out] at h9
        exact h9) (Nat.le_refl _) (putL_sq _ _) (put_pos _ _) (by rw [putL_len]; omega)
      rw [putL_len, ← HN.out] at hlo
      have HLO := Lib.hid hlo
      clear hlo
      go_wp2_with fail
      refine HLO.out.mono ?_
      rintro e w3 ⟨u, f, rfl, ho, hb⟩
      have HO3 := Lib.hid (ho.mono hzr (Nat.le_refl _))
      have HB3 := Lib.hid (HB.out.trans (hb.mono hzr))
      clear ho hb
      go_wp2_with fail
      go_ret2
      exact ⟨u, f, rfl, HO3.out, HB3.out⟩

set_option maxRecDepth 4000 in
set_option maxHeartbeats 800000 in
theorem implPairOf_any (a : Option Addr) (cap : Nat) (p : List (List Int)) (n : Int) (a' : Option Addr) (cap' : Nat) (q : List (List Int)) (m : Int) (w : World) (B C B' C' : Nat) (h : RdII w B C a p) (hC : C ≤ w.heap.size) (hl : p.length ≤ maxLen) (h' : RdII w B' C' a' q) (hC' : C' ≤ w.heap.size) (hl' : q.length ≤ maxLen) :
    Calls Tryz.prog 26 #[.slice a p.length cap, .int .i64 n, .slice a' q.length cap', .int .i64 m] w (RetIIB 3 35 (pairS p n q m) (pairQ p n q m) w) := by
  have F := Lib.hid h
  have F' := Lib.hid h'
  have HLM := Lib.hid hl
  have HLM' := Lib.hid hl'
  clear h h' hl hl'
  cases h1 : nodeB p n
  · obtain ⟨e1, e2⟩ := pairs_no (p := p) (q := q) (n := n) (m := m) (by rw [h1]; rfl)
    rw [e1, e2]
    have HN1 := Lib.hid h1
    clear h1 e1 e2
    go_enter Tryz.func26, Tryz.ntmps26
    go_wp2_with fail
    refine (hasNode_any a cap p n w _ _ F.out HLM.out).mono ?_
    rintro e w' ⟨rfl, rfl⟩
    rw [HN1.out]
    go_wp2_with fail
    go_ret2
    exact ⟨none, 0, rfl, OwII_nil _ _ _ _ _, Below.refl _ _⟩
  · cases h2 : nodeB q m
    · obtain ⟨e1, e2⟩ := pairs_no (p := p) (q := q) (n := n) (m := m) (by rw [h1, h2]; rfl)
      rw [e1, e2]
      have HN1 := Lib.hid h1
      have HN2 := Lib.hid h2
      clear h1 h2 e1 e2
      go_enter Tryz.func26, Tryz.ntmps26
      go_wp2_with fail
      refine (hasNode_any a cap p n w _ _ F.out HLM.out).mono ?_
      rintro e w' ⟨rfl, rfl⟩
      rw [HN1.out]
      go_wp2_with fail
      refine (hasNode_any a' cap' q m w _ _ F'.out HLM'.out).mono ?_
      rintro e w' ⟨rfl, rfl⟩
      rw [HN2.out]
      go_wp2_with fail
      go_ret2
      exact ⟨none, 0, rfl, OwII_nil _ _ _ _ _, Below.refl _ _⟩
    · obtain ⟨i, rfl, hi, hp⟩ := nodeB_nat h1
      obtain ⟨j, rfl, hj, hq⟩ := nodeB_nat h2
      obtain ⟨e1, e2⟩ := pairs_yes h1 h2
      obtain ⟨e3, e4⟩ := pair_in (p := p) (q := q) (i := i) (j := j)
      rw [e1, e2, ← e3, ← e4]
      have HN1 := Lib.hid h1
      have HN2 := Lib.hid h2
      have hpp := picB_sq hp
      have hqq := picB_sq hq
      have hp5 := hpp.2.2
      have hq5 := hqq.2.2
      have HSP := Lib.hid hpp.1
      have HSQ := Lib.hid hqq.1
      have HBE := Lib.hid (beside_any a cap p a' cap' q w B C B' C' F.out hC hpp.1 F'.out hC' hqq.1 (by omega))
      have HBL := Lib.hid (besL_len p q)
      have hji : (p.length : Int) + (j : Int) ≤ 20 := by omega
      clear h1 h2 hp hq e1 e2 e3 e4 hpp hqq
      go_enter Tryz.func26, Tryz.ntmps26
      go_wp2_with fail
      refine (hasNode_any a cap p i w _ _ F.out HLM.out).mono ?_
      rintro e w' ⟨rfl, rfl⟩
      rw [HN1.out]
      go_wp2_with fail
      refine (hasNode_any a' cap' q j w _ _ F'.out HLM'.out).mono ?_
      rintro e w' ⟨rfl, rfl⟩
      rw [HN2.out]
      go_wp2_with fail
      refine HBE.out.mono ?_
      rintro e w1 ⟨x, c, rfl, ho, hb⟩
      have HB1 := Lib.hid hb
      have HX := Lib.hid ho.rd
      have hz1 : w.heap.size ≤ w1.heap.size := hb.size
      have hx16 : (besL p q).length ≤ 16 := by have := HBL.out; omega
      have HBT := Lib.hid (below_alloc w1 (.cells #[.int .i64 i, .int .i64 ((p.length : Int) + (j : Int))] 3))
      have HL2 : Hid (RdI (w1.alloc (.cells #[.int .i64 i, .int .i64 ((p.length : Int) + (j : Int))] 3)) w1.heap.size (w1.heap.size + 1) (some ⟨w1.heap.size, 0, none⟩) [(i : Int), ((p.length : Int) + (j : Int))]) := Lib.hid (fun k hk => by
        refine ⟨w1.heap.size, 0, rfl, Nat.le_refl _, Nat.lt_succ_self _, ?_⟩
        match k, hk with
        | 0, _ => exact blk_cell (alloc1 _ _) rfl
        | 1, _ => exact blk_cell (alloc1 _ _) rfl)
      have HWM := Lib.hid (withMembers_any x c (besL p q) (some ⟨w1.heap.size, 0, none⟩) 2 [(i : Int), ((p.length : Int) + (j : Int))] (w1.alloc (.cells #[.int .i64 i, .int .i64 ((p.length : Int) + (j : Int))] 3)) _ _ _ _ (HX.out.below HBT.out (Nat.le_refl _)) (by simp) (besL_sq _ _) hx16 HL2.out (by simp) (fun k hk => by
        match k, hk with
        | 0, _ => exact ⟨i, rfl, by have := HBL.out; omega⟩
        | 1, _ => exact ⟨p.length + j, by simp, by have := HBL.out; omega⟩) (by simp))
      clear ho hb hx16
      go_wp2_with fail
      refine HWM.out.mono ?_
      rintro e w2 ⟨y, d, rfl, ho, hb⟩
      have hb2 := HBT.out.trans (hb.mono (by simp))
      have HB2 := Lib.hid (HB1.out.trans (hb2.mono hz1))
      have HO2 := Lib.hid (ho.mono (show w.heap.size ≤ (w1.alloc (.cells #[.int .i64 i, .int .i64 ((p.length : Int) + (j : Int))] 3)).heap.size by simp; omega) (Nat.le_refl _))
      clear ho hb hb2
      go_wp2_with fail
      go_ret2
      exact ⟨y, d, rfl, HO2.out, HB2.out⟩
end Go.Proofs.YtfjodcfbhpglhaaGreatDoor
namespace Go.Hyp
open Go.RowKit Go.Deep
theorem rowOf_set {N i : Nat} {f g : Nat → Bool} (b : Bool) (hg : g i = b) (ho : ∀ y, y ≠ i → g y = f y) : (rowOf N f).set i (if b then 1 else 0) = rowOf N g := by
  apply List.ext_getElem (by simp [rowOf_len])
  intro k h1 h2
  rw [List.getElem_set]
  rw [rowOf_len] at h2
  by_cases e : i = k
  · subst e; rw [if_pos rfl, rowOf_get, hg]
  · rw [if_neg e, rowOf_get, rowOf_get, ho k (fun h => e h.symm)]
/-- One row in new memory is a slice of rows. -/
theorem rows_one (w : World) (E R n : Nat) (hn : n ≤ maxLen) : OwII ((w.alloc (.cells (madeCells #[.int .i64 0] n) E)).alloc (.cells #[.slice (some ⟨w.heap.size, 0, none⟩) n n] R)) E R w.heap.size (w.heap.size + 2) (some ⟨w.heap.size + 1, 0, none⟩) 1 (mat 1 n fun _ _ => false) := by
  have hr := World.rowIs_alloc (w.alloc (.cells (madeCells #[.int .i64 0] n) E)) #[.slice (some ⟨w.heap.size, 0, none⟩) n n] R (fun _ => .slice (some ⟨w.heap.size, 0, none⟩) n n) (fun i hi => by
    have : i = 0 := by simp at hi; omega
    subst this; rfl)
  have hs : (w.alloc (.cells (madeCells #[.int .i64 0] n) E)).heap.size = w.heap.size + 1 := by simp
  rw [hs] at hr
  have e0 : (mat 1 n fun _ _ => false).getD 0 [] = rowOf n fun _ => false := mat_get? _ _ _ _ (by omega)
  refine ⟨fun _ => some ⟨w.heap.size, 0, none⟩, fun _ => n, .inr ⟨w.heap.size + 1, _, rfl, by omega, by omega, hr, by rw [mat_len]; simp, by unfold maxLen; simp, fun i hi => ?_⟩, fun i hi => ?_, fun i j hij hj => ?_, fun i hi x y hx hy => ?_⟩
  · rw [mat_len] at hi
    have : i = 0 := by omega
    subst this
    show Value.slice _ n n = Value.slice _ ((mat 1 n fun _ _ => false).getD 0 []).length n
    rw [e0, rowOf_len]
  · rw [mat_len] at hi
    have : i = 0 := by omega
    subst this
    rw [e0]
    exact ((OwI_zeros w E n hn).agr ((Agr.refl _ _ _).alloc (by simp) _)).mono (Nat.le_refl _) (by omega)
  · rw [mat_len] at hj; omega
  · injection hx with hx; injection hy with hy; subst hx; subst hy; simp
/-- The members that two lists name, the second one's behind n1 nodes. -/
def l6F (n1 : Nat) (A B : List Int) (u : Nat) : Bool := inF A u || (decide (n1 ≤ u) && inF B (u - n1))
/-- The first row. -/
def r0F (n1 : Nat) (A B : List Int) (y : Nat) : Bool := decide (1 ≤ y) && l6F n1 A B (y - 1)
theorem inF_succ {L : List Int} {k v : Nat} (hk : k < L.length) (hv : L[k] = (v : Int)) (u : Nat) : inF (L.take (k + 1)) u = (inF (L.take k) u || decide (u = v)) := by
  unfold inF
  rw [List.take_succ_eq_append_getElem hk, hv, Bool.eq_iff_iff]
  simp only [Bool.or_eq_true, decide_eq_true_eq, List.mem_append, List.mem_singleton]
  constructor
  · rintro (h | h)
    · exact .inl h
    · exact .inr (by omega)
  · rintro (h | h)
    · exact .inl h
    · exact .inr (by omega)
theorem r0F_left {n1 : Nat} {A B : List Int} {k v : Nat} (hk : k < A.length) (hv : A[k] = (v : Int)) (x y : Nat) (hx : x < 1) : r0F n1 (A.take (k + 1)) B y = if x = 0 ∧ y = 1 + v then true else r0F n1 (A.take k) B y := by
  have hx0 : x = 0 := by omega
  unfold r0F l6F
  rw [inF_succ hk hv]
  by_cases hy : y = 1 + v
  · rw [if_pos ⟨hx0, hy⟩, decide_eq_true (p := 1 ≤ y) (by omega), decide_eq_true (p := y - 1 = v) (by omega)]; simp
  · rw [if_neg (fun h => hy h.2)]
    by_cases h1 : 1 ≤ y
    · rw [decide_eq_false (p := y - 1 = v) (by omega), Bool.or_false]
    · rw [decide_eq_false h1]; rfl
theorem r0F_right {n1 : Nat} {A B : List Int} {k v : Nat} (hk : k < B.length) (hv : B[k] = (v : Int)) (x y : Nat) (hx : x < 1) : r0F n1 A (B.take (k + 1)) y = if x = 0 ∧ y = 1 + n1 + v then true else r0F n1 A (B.take k) y := by
  have hx0 : x = 0 := by omega
  unfold r0F l6F
  rw [inF_succ hk hv]
  by_cases hy : y = 1 + n1 + v
  · rw [if_pos ⟨hx0, hy⟩, decide_eq_true (p := 1 ≤ y) (by omega), decide_eq_true (p := n1 ≤ y - 1) (by omega), decide_eq_true (p := y - 1 - n1 = v) (by omega)]; simp
  · rw [if_neg (fun h => hy h.2)]
    by_cases h1 : 1 ≤ y
    · by_cases h2 : n1 ≤ y - 1
      · rw [decide_eq_false (p := y - 1 - n1 = v) (by omega), Bool.or_false]
      · rw [decide_eq_false h2]; simp
    · rw [decide_eq_false h1]; rfl
theorem r0F_nil (n1 y : Nat) : r0F n1 [] [] y = false := by unfold r0F l6F; rw [inF_nil]; simp
/-- The row of node k of the first picture (or of the second one, behind n1 nodes), its first j places laid. -/
def rkF (p : List (List Int)) (k n1 j y : Nat) : Bool := decide (1 + n1 ≤ y) && (decide (y - 1 - n1 < j) && arr p k (y - 1 - n1))
theorem rkF_zero (p : List (List Int)) (k n1 N : Nat) : rowOf N (rkF p k n1 0) = rowOf N fun _ => false := rowOf_congr fun y _ => by unfold rkF; rw [decide_eq_false (p := y - 1 - n1 < 0) (by omega)]; simp
theorem rkF_set {p : List (List Int)} {k n1 j N i : Nat} (hi : i = 1 + n1 + j) : (rowOf N (rkF p k n1 j)).set i (if arr p k j then 1 else 0) = rowOf N (rkF p k n1 (j + 1)) := by
  refine rowOf_set _ ?_ fun y hy => ?_
  · unfold rkF
    rw [decide_eq_true (by omega), decide_eq_true (p := i - 1 - n1 < j + 1) (by omega), show i - 1 - n1 = j by omega]; rfl
  · unfold rkF
    by_cases h1 : 1 + n1 ≤ y
    · have : decide (y - 1 - n1 < j + 1) = decide (y - 1 - n1 < j) := by
        by_cases h2 : y - 1 - n1 < j
        · rw [decide_eq_true h2, decide_eq_true (by omega)]
        · rw [decide_eq_false h2, decide_eq_false (by omega)]
      rw [this]
    · rw [decide_eq_false h1]; rfl
theorem rkF_left {p q : List (List Int)} {m : Nat → Bool} {k : Nat} (hk : k < p.length) : rowOf (p.length + q.length + 1) (rkF p k 0 p.length) = rowOf (p.length + q.length + 1) (putF (besL p q) m (k + 1)) := rowOf_congr fun y hy => by
  unfold rkF putF
  rw [if_neg (by omega), Nat.add_zero, Nat.sub_zero, show k + 1 - 1 = k by omega]
  by_cases h1 : 1 ≤ y
  · rw [besL_left hk (by omega)]
  · rw [decide_eq_false h1]; rfl
theorem rkF_right {p q : List (List Int)} {m : Nat → Bool} {k : Nat} (hk : k < q.length) : rowOf (p.length + q.length + 1) (rkF q k p.length q.length) = rowOf (p.length + q.length + 1) (putF (besL p q) m (p.length + k + 1)) := rowOf_congr fun y hy => by
  unfold rkF putF
  rw [if_neg (by omega), show p.length + k + 1 - 1 = p.length + k by omega]
  by_cases h1 : 1 ≤ y
  · rw [decide_eq_true h1, besL_right hk (by omega)]
    by_cases h2 : 1 + p.length ≤ y
    · rw [decide_eq_true h2, decide_eq_true (p := p.length ≤ y - 1) (by omega), decide_eq_true (p := y - 1 - p.length < q.length) (by omega)]
    · rw [decide_eq_false h2, decide_eq_false (p := p.length ≤ y - 1) (by omega)]; rfl
  · rw [decide_eq_false h1, decide_eq_false (p := 1 + p.length ≤ y) (by omega)]; rfl
end Go.Hyp
namespace Go.Proofs.YtfjodcfbhpglhaaGreatDoor
open Go.RowKit Go.Hyp Go.Deep

set_option maxRecDepth 4000 in
set_option maxHeartbeats 4000000 in
theorem l6Put_any (a : Option Addr) (cap : Nat) (p : List (List Int)) (a' : Option Addr) (cap' : Nat) (q : List (List Int)) (a1 : Option Addr) (c1 : Nat) (L1 : List Int) (a2 : Option Addr) (c2 : Nat) (L2 : List Int) (w : World) (B C B' C' B1 C1 B2 C2 : Nat)
    (h : RdII w B C a p) (hC : C ≤ w.heap.size) (hs : Sq p) (hl : p.length ≤ 5) (h' : RdII w B' C' a' q) (hC' : C' ≤ w.heap.size) (hs' : Sq q) (hl' : q.length ≤ 5)
    (h1 : RdI w B1 C1 a1 L1) (hC1 : C1 ≤ w.heap.size) (hL1 : ∀ k (hk : k < L1.length), ∃ v : Nat, L1[k] = v ∧ v < p.length) (hn1 : L1.length ≤ 64)
    (h2 : RdI w B2 C2 a2 L2) (hC2 : C2 ≤ w.heap.size) (hL2 : ∀ k (hk : k < L2.length), ∃ v : Nat, L2[k] = v ∧ v < q.length) (hn2 : L2.length ≤ 64) :
    Calls Tryz.prog 43 #[.slice a p.length cap, .slice a' q.length cap', .slice a1 L1.length c1, .slice a2 L2.length c2] w (RetII 3 35 (putL (besL p q) (l6F p.length L1 L2)) w) := by
  have F := Lib.hid h
  have F' := Lib.hid h'
  have G1 := Lib.hid h1
  have G2 := Lib.hid h2
  have HS := Lib.hid hs
  have HS' := Lib.hid hs'
  have HL1 := Lib.hid hL1
  have HL2 := Lib.hid hL2
  clear h h' h1 h2 hs hs' hL1 hL2
  obtain ⟨N, hN⟩ : ∃ N, N = p.length + q.length + 1 := ⟨_, rfl⟩
  have hNi : (1 : Int) + (p.length : Int) + (q.length : Int) = (N : Int) := by omega
  have hN11 : N ≤ 11 := by omega
  have hN0 : 0 < N := by omega
  have HN := Lib.hid hN
  have hNp : p.length < N := by omega
  have hNpq : p.length + q.length < N := by omega
  have hmk := run_make_row' (P := Tryz.prog) 35 3 _ _ Tryz.underlying35 Tryz.infoInt rfl .i64 .i64 N (by omega) (by omega)
  have HR1 := Lib.hid (rows_one w 3 35 N (by unfold maxLen; omega))
  have HB0 := Lib.hid ((below_alloc w (.cells (madeCells #[.int .i64 0] N) 3)).alloc (by simp) (.cells #[.slice (some ⟨w.heap.size, 0, none⟩) N N] 35))
  clear hN
  go_enter Tryz.func43, Tryz.ntmps43
  go_wp2_with fail
  clear hNi
  go_loopw [11] (fun i wr => ∃ k : Nat, k ≤ L1.length ∧ i = .int .i64 k ∧ OwII wr 3 35 w.heap.size wr.heap.size (some ⟨w.heap.size + 1, 0, none⟩) 1 (mat 1 N fun _ y => r0F p.length (L1.take k) [] y) ∧ Below w.heap.size w wr) (fun i _ => L1.length - (intOf i).toNat)
  case atStart => exact ⟨0, Nat.zero_le _, rfl, (HR1.out.matCongr (fun x y _ _ => by rw [List.take_zero, r0F_nil])).mono (Nat.le_refl _) (by simp), HB0.out⟩
  case round =>
    obtain ⟨k, hk, rfl, ho, hb⟩ := hrel
    have HO := Lib.hid ho
    have HB := Lib.hid hb
    have hzr : w.heap.size ≤ wr.heap.size := hb.size
    clear ho hb HR1 HB0
    obtain ⟨wq, hwq⟩ : ∃ x, x = wr := ⟨_, rfl⟩
    subst hwq
    by_cases hlt : k < L1.length
    · have hki : (k : Int) < (L1.length : Int) := by omega
      obtain ⟨v, hv, hvP⟩ := HL1.out k hlt
      obtain ⟨b, off, rfl, _, hbC, hd⟩ := (G1.out.below HB.out hC1).at k hlt
      rw [hv] at hd
      have hvN : 1 + v < N := by omega
      have hvi : (1 : Int) + (v : Int) < (N : Int) := by omega
      obtain ⟨g, r, ci, ea5, hg1, _, hgl, hhead, hr1, _, hrl, hq1, hq2, hgr, hput⟩ := HO.out.bitAt 0 (1 + v) (by omega) hvN
      have HP := Lib.hid (hput true (fun _ y => r0F p.length (L1.take (k + 1)) [] y) (fun x y hx _ => r0F_left hlt hv x y hx))
      have hbw : b < wq.heap.size := by omega
      cases ea5
      clear hv hput
      generalize hxx : (if r0F p.length (L1.take k) [] (1 + v) = true then (1 : Int) else 0) = X0 at hq1
      clear hxx
      go_wp2_with fail
      go_region
      go_wp2_with fail
      go_roundw
      case rel =>
        have h9 := HP.out
        simp only [if_true] at h9
        exact ⟨k + 1, by omega, by go_num, h9.mono (Nat.le_refl _) (by simp), (HB.out.setCell hr1 _).drew⟩
      case measure => simp [intOf]; omega
    · obtain rfl : k = L1.length := by omega
      have HO1 : Hid (OwII wq 3 35 w.heap.size wq.heap.size (some ⟨w.heap.size + 1, 0, none⟩) 1 (mat 1 N fun _ y => r0F p.length L1 [] y)) := Lib.hid (by have h9 := HO.out; rw [List.take_of_length_le (Nat.le_refl _)] at h9; exact h9)
      clear HO
      go_wp2_with fail
      go_loopw [12] (fun i wr => ∃ k : Nat, k ≤ L2.length ∧ i = .int .i64 k ∧ OwII wr 3 35 w.heap.size wr.heap.size (some ⟨w.heap.size + 1, 0, none⟩) 1 (mat 1 N fun _ y => r0F p.length L1 (L2.take k) y) ∧ Below w.heap.size w wr) (fun i _ => L2.length - (intOf i).toNat)
      case atStart => exact ⟨0, Nat.zero_le _, rfl, by rw [List.take_zero]; exact HO1.out, HB.out⟩
      case round =>
        obtain ⟨k, hk, rfl, ho, hb⟩ := hrel
        have HO2 := Lib.hid ho
        have HB2 := Lib.hid hb
        have hzr2 : w.heap.size ≤ wr.heap.size := hb.size
        clear ho hb HO1 HB
        obtain ⟨w2, hwq⟩ : ∃ x, x = wr := ⟨_, rfl⟩
        subst hwq
        by_cases hlt : k < L2.length
        · have hki : (k : Int) < (L2.length : Int) := by omega
          obtain ⟨v, hv, hvP⟩ := HL2.out k hlt
          obtain ⟨b, off, rfl, _, hbC, hd⟩ := (G2.out.below HB2.out hC2).at k hlt
          rw [hv] at hd
          have hvN : 1 + p.length + v < N := by omega
          have hvi : (1 : Int) + (p.length : Int) + (v : Int) < (N : Int) := by omega
          obtain ⟨g, r, ci, ea5, hg1, _, hgl, hhead, hr1, _, hrl, hq1, hq2, hgr, hput⟩ := HO2.out.bitAt 0 (1 + p.length + v) (by omega) hvN
          have HP := Lib.hid (hput true (fun _ y => r0F p.length L1 (L2.take (k + 1)) y) (fun x y hx _ => r0F_right hlt hv x y hx))
          have hbw : b < w2.heap.size := by omega
          cases ea5
          clear hv hput
          generalize hxx : (if r0F p.length L1 (L2.take k) (1 + p.length + v) = true then (1 : Int) else 0) = X0 at hq1
          clear hxx
          go_wp2_with fail
          go_region
          go_wp2_with fail
          go_roundw
          case rel =>
            have h9 := HP.out
            simp only [if_true] at h9
            exact ⟨k + 1, by omega, by go_num, h9.mono (Nat.le_refl _) (by simp), (HB2.out.setCell hr1 _).drew⟩
          case measure => simp [intOf]; omega
        · obtain rfl : k = L2.length := by omega
          obtain ⟨M, hM⟩ : ∃ M, M = putL (besL p q) (l6F p.length L1 L2) := ⟨_, rfl⟩
          have hMt : ∀ k, k < N → M.take (k + 1) = M.take k ++ [rowOf N (putF (besL p q) (l6F p.length L1 L2) k)] := fun k hk => by
            have e : putL (besL p q) (l6F p.length L1 L2) = mat (p.length + q.length + 1) (p.length + q.length + 1) (putF (besL p q) (l6F p.length L1 L2)) := by unfold putL; rw [besL_len]
            rw [hM, HN.out, e]
            exact mat_take _ _ _ k (by have := HN.out; omega)
          have hM1 : M.take 1 = mat 1 N fun _ y => r0F p.length L1 L2 y := by
            rw [hMt 0 hN0, List.take_zero]
            rfl
          have HO3 : Hid (OwII w2 3 35 w.heap.size w2.heap.size (some ⟨w.heap.size + 1, 0, none⟩) 1 (M.take 1)) := Lib.hid (by have h9 := HO2.out; rw [List.take_of_length_le (Nat.le_refl _), ← hM1] at h9; exact h9)
          have HMT := Lib.hid hMt
          have HM := Lib.hid hM
          have HML : Hid ((M.take 1).length = 1) := Lib.hid (by rw [hM1, mat_len])
          rw [← hM]
          clear HO2 hMt hM1 hM
          go_wp2_with fail
          go_loopw [10, 13] (fun o i wr => ∃ (x : Option Addr) (c : Nat) (P : List (List Int)) (k : Nat), k ≤ p.length ∧ i = .int .i64 k ∧ o = .slice x P.length c ∧ P = M.take (k + 1) ∧ P.length = k + 1 ∧ OwII wr 3 35 w.heap.size wr.heap.size x c P ∧ Below w.heap.size w wr) (fun _ i _ => p.length - (intOf i).toNat)
          case atStart => exact ⟨_, 1, M.take 1, 0, Nat.zero_le _, rfl, by rw [HML.out], rfl, HML.out, HO3.out, HB2.out⟩
          case round =>
            obtain ⟨x, c, P, k, hk, rfl, rfl, hP, hPl, ho, hb⟩ := hrel
            have HP := Lib.hid hP
            have HPL := Lib.hid hPl
            have hPm : P.length ≤ 12 := by omega
            have HO := Lib.hid ho
            have HB := Lib.hid hb
            have hzr3 : w.heap.size ≤ wr.heap.size := hb.size
            clear hP hPl ho hb HO3 HB2
            by_cases hlt : k < p.length
            · have hki : (k : Int) < (p.length : Int) := by omega
              have HL0 := Lib.hid (OwI_zeros wr 3 N (by unfold maxLen; omega))
              have HBA := Lib.hid (HB.out.alloc hzr3 (.cells (madeCells #[.int .i64 0] N) 3))
              have HPA := Lib.hid (HO.out.below (below_alloc wr (.cells (madeCells #[.int .i64 0] N) 3)) (Nat.le_refl _))
              obtain ⟨wk, hwk⟩ : ∃ wk : World, wk = wr := ⟨_, rfl⟩
              subst hwk
              clear HO HB
              go_wp2_with fail
              go_loopw [15] (fun i wi => ∃ (j : Nat) (L : List Int), j ≤ p.length ∧ i = .int .i64 j ∧ L = rowOf N (rkF p k 0 j) ∧ OwI wi 3 wk.heap.size (wk.heap.size + 1) (some ⟨wk.heap.size, 0, none⟩) N L ∧ OwII wi 3 35 w.heap.size wk.heap.size x c P ∧ Below w.heap.size w wi ∧ wk.heap.size + 1 ≤ wi.heap.size) (fun i _ => p.length - (intOf i).toNat)
              case atStart => exact ⟨0, _, Nat.zero_le _, rfl, (rkF_zero p k 0 N).symm, HL0.out, HPA.out, HBA.out, by simp⟩
              case round =>
                obtain ⟨j, L, hj, rfl, hLr, hli, hpi, hbi, hzi⟩ := hrel
                have HLR := Lib.hid hLr
                have HLI := Lib.hid hli
                have HPI := Lib.hid hpi
                have HBI := Lib.hid hbi
                clear hLr hli hpi hbi HL0 HPA HBA
                by_cases hlt2 : j < p.length
                · have hji : (j : Int) < (p.length : Int) := by omega
                  have hjN : 1 + j < N := by omega
                  have hjNi : (1 : Int) + (j : Int) < (N : Int) := by omega
                  have hLl : L.length = N := by rw [HLR.out, rowOf_len]
                  obtain ⟨gx, hgx, _, _, hd6, hfz6, hgl6⟩ := HLI.out.cells (1 + j) (by rw [hLl]; exact hjN)
                  cases hgx
                  obtain ⟨b5, o5, b5', o5', c5', rfl, _, hb5, hc5, _, hb5', hd5⟩ := (F.out.below HBI.out hC).bit HS.out k j hlt hlt2
                  have hset := rkF_set (p := p) (k := k) (n1 := 0) (j := j) (N := N) (i := 1 + j) (by omega)
                  rw [← HLR.out] at hset
                  have HSET := Lib.hid hset
                  have HLL := Lib.hid hLl
                  clear hset
                  cases hx : arr p k j
                  all_goals
                    rw [hx] at hd5 HSET
                    simp only [Bool.false_eq_true, if_false, if_true] at hd5 HSET
                    clear hx
                    go_wp2_with fail
                    go_roundw
                    case rel => exact ⟨j + 1, _, by omega, by go_num, HSET.out, HLI.out.setAt (1 + j) (by rw [HLL.out]; exact hjN) _, HPI.out.agr ((Agr.refl _ _ _).set (by omega) _), HBI.out.setCell (p := ⟨wk.heap.size, 1 + j, none⟩) hzr3 _, by simp; omega⟩
                    case measure => simp [intOf]; omega
                · obtain rfl : j = p.length := by omega
                  have hLl : L.length = N := by rw [HLR.out, rowOf_len]
                  have HLL := Lib.hid hLl
                  have HTK : Hid (M.take (k + 1 + 1) = P ++ [L]) := Lib.hid (by
                    rw [HMT.out (k + 1) (by omega), HP.out, HLR.out]
                    have h9 := rkF_left (p := p) (q := q) (m := l6F p.length L1 L2) hlt
                    rw [← HN.out] at h9
                    rw [h9])
                  obtain ⟨wq, hwq⟩ : ∃ wq : World, wq = wr := ⟨_, rfl⟩
                  subst hwq
                  clear hLl
                  go_wp2_with (at_builtin; go_loud (refine wpList_appII Tryz.underlying22 Tryz.infoRow _ rfl _ _ rfl w.heap.size wk.heap.size x c P rfl (HPI.out.agr ((Agr.refl _ _ _).alloc (by omega) _)) (by simp; omega) (by simp; omega) ⟨wq.heap.size, 0, none⟩ (some ⟨wk.heap.size, 0, none⟩) N L rfl (by rw [HLL.out]; exact new_cellE _ _ _ rfl) wk.heap.size (wk.heap.size + 1) (HLI.out.agr ((Agr.refl _ _ _).alloc (by omega) _)) (Nat.le_refl _) (by omega) (by simp; omega) (by omega) ?_); intro a9 c9 w6 hown hgrow hat)
                  have HO6 := Lib.hid hown
                  have HB6 := Lib.hid (below_app HBI.out hgrow (HPI.out.app_in (Nat.le_refl _)) (Nat.le_refl _) (Nat.le_refl _))
                  clear hown hgrow hat
                  go_wp2_with fail
                  go_roundw
                  case rel =>
                    have e1 : (P ++ [L]).length = P.length + 1 := by simp
                    have e2 : P.length + 1 = k + 1 + 1 := by rw [HPL.out]
                    have e5 : Value.slice a9 (P.length + 1) c9 = .slice a9 (P ++ [L]).length c9 := by rw [e1]
                    first
                      | exact ⟨a9, c9, P ++ [L], k + 1, by omega, by go_num, e5, HTK.out.symm, e1.trans e2, HO6.out, HB6.out⟩
                      | ((repeat apply Exists.intro); exact ⟨⟨a9, c9, P ++ [L], k + 1, by omega, by go_num, e5, HTK.out.symm, e1.trans e2, HO6.out, HB6.out⟩, rfl⟩)
                  case measure => simp [intOf]; omega
            · obtain rfl : k = p.length := by omega
              go_wp2_with fail
              go_loopw [10, 16] (fun o i wr => ∃ (x : Option Addr) (c : Nat) (P : List (List Int)) (k : Nat), k ≤ q.length ∧ i = .int .i64 k ∧ o = .slice x P.length c ∧ P = M.take (p.length + k + 1) ∧ P.length = p.length + k + 1 ∧ OwII wr 3 35 w.heap.size wr.heap.size x c P ∧ Below w.heap.size w wr) (fun _ i _ => q.length - (intOf i).toNat)
              case atStart => exact ⟨x, c, P, 0, Nat.zero_le _, rfl, rfl, HP.out, HPL.out, HO.out, HB.out⟩
              case round =>
                obtain ⟨x, c, P, k, hk, rfl, rfl, hP, hPl, ho, hb⟩ := hrel
                have HP2 := Lib.hid hP
                have HPL2 := Lib.hid hPl
                have hPm : P.length ≤ 12 := by omega
                have HO4 := Lib.hid ho
                have HB4 := Lib.hid hb
                have hzr4 : w.heap.size ≤ wr.heap.size := hb.size
                clear hP hPl ho hb HO HB HP HPL
                by_cases hlt : k < q.length
                · have hki : (k : Int) < (q.length : Int) := by omega
                  have HL0 := Lib.hid (OwI_zeros wr 3 N (by unfold maxLen; omega))
                  have HBA := Lib.hid (HB4.out.alloc hzr4 (.cells (madeCells #[.int .i64 0] N) 3))
                  have HPA := Lib.hid (HO4.out.below (below_alloc wr (.cells (madeCells #[.int .i64 0] N) 3)) (Nat.le_refl _))
                  obtain ⟨wk, hwk⟩ : ∃ wk : World, wk = wr := ⟨_, rfl⟩
                  subst hwk
                  clear HO4 HB4
                  go_wp2_with fail
                  go_loopw [18] (fun i wi => ∃ (j : Nat) (L : List Int), j ≤ q.length ∧ i = .int .i64 j ∧ L = rowOf N (rkF q k p.length j) ∧ OwI wi 3 wk.heap.size (wk.heap.size + 1) (some ⟨wk.heap.size, 0, none⟩) N L ∧ OwII wi 3 35 w.heap.size wk.heap.size x c P ∧ Below w.heap.size w wi ∧ wk.heap.size + 1 ≤ wi.heap.size) (fun i _ => q.length - (intOf i).toNat)
                  case atStart => exact ⟨0, _, Nat.zero_le _, rfl, (rkF_zero q k p.length N).symm, HL0.out, HPA.out, HBA.out, by simp⟩
                  case round =>
                    obtain ⟨j, L, hj, rfl, hLr, hli, hpi, hbi, hzi⟩ := hrel
                    have HLR := Lib.hid hLr
                    have HLI := Lib.hid hli
                    have HPI := Lib.hid hpi
                    have HBI := Lib.hid hbi
                    clear hLr hli hpi hbi HL0 HPA HBA
                    by_cases hlt2 : j < q.length
                    · have hji : (j : Int) < (q.length : Int) := by omega
                      have hjN : 1 + p.length + j < N := by omega
                      have hjNi : (1 : Int) + (p.length : Int) + (j : Int) < (N : Int) := by omega
                      have hLl : L.length = N := by rw [HLR.out, rowOf_len]
                      obtain ⟨gx, hgx, _, _, hd6, hfz6, hgl6⟩ := HLI.out.cells (1 + p.length + j) (by rw [hLl]; exact hjN)
                      cases hgx
                      obtain ⟨b5, o5, b5', o5', c5', rfl, _, hb5, hc5, _, hb5', hd5⟩ := (F'.out.below HBI.out hC').bit HS'.out k j hlt hlt2
                      have hset := rkF_set (p := q) (k := k) (n1 := p.length) (j := j) (N := N) (i := 1 + p.length + j) rfl
                      rw [← HLR.out] at hset
                      have HSET := Lib.hid hset
                      have HLL := Lib.hid hLl
                      clear hset
                      cases hx : arr q k j
                      all_goals
                        rw [hx] at hd5 HSET
                        simp only [Bool.false_eq_true, if_false, if_true] at hd5 HSET
                        clear hx
                        go_wp2_with fail
                        go_roundw
                        case rel => exact ⟨j + 1, _, by omega, by go_num, HSET.out, HLI.out.setAt (1 + p.length + j) (by rw [HLL.out]; exact hjN) _, HPI.out.agr ((Agr.refl _ _ _).set (by omega) _), HBI.out.setCell (p := ⟨wk.heap.size, 1 + p.length + j, none⟩) hzr4 _, by simp; omega⟩
                        case measure => simp [intOf]; omega
                    · obtain rfl : j = q.length := by omega
                      have hLl : L.length = N := by rw [HLR.out, rowOf_len]
                      have HLL := Lib.hid hLl
                      have HTK : Hid (M.take (p.length + (k + 1) + 1) = P ++ [L]) := Lib.hid (by
                        rw [show p.length + (k + 1) + 1 = p.length + k + 1 + 1 by omega, HMT.out (p.length + k + 1) (by omega), HP2.out, HLR.out]
                        have h9 := rkF_right (p := p) (q := q) (m := l6F p.length L1 L2) hlt
                        rw [← HN.out] at h9
                        rw [h9])
                      obtain ⟨wq, hwq⟩ : ∃ wq : World, wq = wr := ⟨_, rfl⟩
                      subst hwq
                      clear hLl
                      go_wp2_with (at_builtin; go_loud (refine wpList_appII Tryz.underlying22 Tryz.infoRow _ rfl _ _ rfl w.heap.size wk.heap.size x c P rfl (HPI.out.agr ((Agr.refl _ _ _).alloc (by omega) _)) (by simp; omega) (by simp; omega) ⟨wq.heap.size, 0, none⟩ (some ⟨wk.heap.size, 0, none⟩) N L rfl (by rw [HLL.out]; exact new_cellE _ _ _ rfl) wk.heap.size (wk.heap.size + 1) (HLI.out.agr ((Agr.refl _ _ _).alloc (by omega) _)) (Nat.le_refl _) (by omega) (by simp; omega) (by omega) ?_); intro a9 c9 w6 hown hgrow hat)
                      have HO6 := Lib.hid hown
                      have HB6 := Lib.hid (below_app HBI.out hgrow (HPI.out.app_in (Nat.le_refl _)) (Nat.le_refl _) (Nat.le_refl _))
                      clear hown hgrow hat
                      go_wp2_with fail
                      go_roundw
                      case rel =>
                        have e1 : (P ++ [L]).length = P.length + 1 := by simp
                        have e2 : P.length + 1 = p.length + (k + 1) + 1 := by rw [HPL2.out]; omega
                        have e5 : Value.slice a9 (P.length + 1) c9 = .slice a9 (P ++ [L]).length c9 := by rw [e1]
                        first
                          | exact ⟨a9, c9, P ++ [L], k + 1, by omega, by go_num, e5, HTK.out.symm, e1.trans e2, HO6.out, HB6.out⟩
                          | ((repeat apply Exists.intro); exact ⟨⟨a9, c9, P ++ [L], k + 1, by omega, by go_num, e5, HTK.out.symm, e1.trans e2, HO6.out, HB6.out⟩, rfl⟩)
                      case measure => simp [intOf]; omega
                · obtain rfl : k = q.length := by omega
                  have HE : Hid (P = M) := Lib.hid (by
                    rw [HP2.out, List.take_of_length_le]
                    rw [HM.out, putL_len, besL_len]
                    exact Nat.le_refl _)
                  go_wp2_with fail
                  go_ret
                  exact retII_of (HE.out.trans HM.out) HO4.out HB4.out
end Go.Proofs.YtfjodcfbhpglhaaGreatDoor
