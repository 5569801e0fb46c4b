/- impl.leastOf, LeastOf, isLeast, LeastOk, walked. impl.withMembers and what calls it, walked. What PairOf, TogetherOf and WithoutSet answer, and the laws of it. No program in sight. spec.l6Put, walked. spec.l6Least and spec.PairOf, walked. spec.TogetherOf and spec.WithoutSet, walked. -/
import Derived.Laws.EntriesVeiled
import Derived.Test.YtfjodcfbhpglhaaGreatDoorM18
import Derived.Test.YtfjodcfbhpglhaaGreatDoorM20
import Derived.Test.YtfjodcfbhpglhaaGreatDoorM26
import Derived.Test.YtfjodcfbhpglhaaGreatDoorM24
import Derived.Test.YtfjodcfbhpglhaaGreatDoorM25
import Derived.Test.YtfjodcfbhpglhaaGreatDoorM6
namespace Go.Hyp
/-- What leastOf answers: the least picture, if it has not too many nodes. -/
def leastQ (p : List (List Int)) (i : Nat) : Bool := decide ((joinedL p i).length ≤ 5)
def leastN (p : List (List Int)) (i : Nat) : List (List Int) := if leastQ p i = true then leastC p i else []
theorem leastN_yes {p : List (List Int)} {i : Nat} (h : leastQ p i = true) : leastN p i = leastC p i := by unfold leastN; rw [h]; rfl
theorem leastN_no {p : List (List Int)} {i : Nat} (h : leastQ p i = false) : leastN p i = [] := by unfold leastN; rw [h]; rfl
theorem putR_N (P : List (List Int)) (m : Nat → Bool) : putR P m = leastN (putL P m) 0 := rfl
theorem putB_Q (P : List (List Int)) (m : Nat → Bool) : putB P m = leastQ (putL P m) 0 := rfl
theorem place_is {p : List (List Int)} {i : Nat} (hi : i < p.length) (h5 : (joinedL p i).length ≤ 5) : (comp (joinedL p i).length ((joinedL p i).length - 1) [0]).foldl (better (joinM p (joinedL p i))) (joinM p (joinedL p i)) = leastC p i := by
  have h1 := joined_pos hi
  have h := leastC_eq hi (by omega) (joinedL_fit hi) (placeL_least (joinM_sq p (joinedL p i)) h1)
  unfold placeL at h
  rwa [joinM_len] at h
end Go.Hyp
namespace Go.Proofs.YtfjodcfbhpglhaaGreatDoor
open Go.RowKit Go.Hyp Go.Deep

set_option maxRecDepth 4000 in
set_option maxHeartbeats 1200000 in
theorem leastOf_any (a : Option Addr) (cap : Nat) (p : List (List Int)) (i : Nat) (w : World) (B C : Nat) (h : RdII w B C a p) (hC : C ≤ w.heap.size) (hs : Sq p) (hi : i < p.length) (hl : p.length ≤ 1024) :
    Calls Tryz.prog 58 #[.slice a p.length cap, .int .i64 i] w (RetIIB 3 35 (leastN p i) (leastQ p i) w) := by
  have F := Lib.hid h
  have HS := Lib.hid hs
  have HLL := Lib.hid (joinM_len p (joinedL p i))
  have hpos := (joinedL_fit hi).pos
  have hle := (joinedL_fit hi).len
  clear h hs
  obtain ⟨X, hX⟩ : ∃ X, X = joinM p (joinedL p i) := ⟨_, rfl⟩
  have hXl : X.length = (joinedL p i).length := by rw [hX, joinM_len]
  have hXs : Sq X := by rw [hX]; exact joinM_sq _ _
  have HXS := Lib.hid hXs
  have HJ := Lib.hid (joinedOf_any a cap p i w B C F.out hC HS.out hi hl)
  rw [← hX] at HJ
  clear hXs
  cases hq : leastQ p i
  · have HN := Lib.hid (leastN_no hq)
    have h5 : ¬ (joinedL p i).length ≤ 5 := of_decide_eq_false hq
    have h5i : (5 : Int) < (X.length : Int) := by omega
    clear hq hXl hX
    go_enter Tryz.func58, Tryz.ntmps58
    go_wp2_with fail
    refine HJ.out.mono ?_
    rintro e w1 ⟨x, c, rfl, ho, hb⟩
    have HB := Lib.hid hb
    clear ho hb
    go_wp2_with fail
    go_ret2
    rw [HN.out]
    exact ⟨none, 0, rfl, OwII_nil _ _ _ _ _, HB.out.alloc HB.out.size _⟩
  · have HN := Lib.hid (leastN_yes hq)
    have h5 : (joinedL p i).length ≤ 5 := of_decide_eq_true hq
    have hX5 : X.length ≤ 5 := by omega
    have hX1 : 1 ≤ X.length := by omega
    have h5i : (X.length : Int) ≤ 5 := by omega
    have hpl := place_is hi h5
    rw [← hX, ← hXl] at hpl
    have HPL := Lib.hid hpl
    have HXE := Lib.hid hXl
    clear hq hXl hX hpl
    go_enter Tryz.func58, Tryz.ntmps58
    go_wp2_with fail
    refine HJ.out.mono ?_
    rintro e w1 ⟨x, c, rfl, ho, hb⟩
    have HB := Lib.hid hb
    have HO := Lib.hid ho
    have hz1 : w.heap.size ≤ w1.heap.size := hb.size
    clear ho hb
    go_upto_region 7 with (fail)
    obtain ⟨W, hW⟩ : ∃ W, W = ((((w1.alloc (.cells #[.slice x X.length c] 22)).alloc (.cells #[.slice x X.length c] 22)).alloc (.cells #[.int .i64 0] 3)).alloc (.cells #[.slice (some ⟨w1.heap.size + 1 + 1, 0, none⟩) 1 1] 35)).alloc (.cells #[.nilFunc] 1) := ⟨_, rfl⟩
    rw [← hW]
    have hJ1 : W.heap[w1.heap.size]? = some (.cells #[.slice x X.length c] 22 (0, 0)) := by rw [hW]; exact blk_old (blk_old (blk_old (blk_old (blk_new rfl))))
    have hB1 : W.heap[w1.heap.size + 1]? = some (.cells #[.slice x X.length c] 22 (0, 0)) := by rw [hW]; exact blk_old (blk_old (blk_old (blk_new (by simp))))
    have hO1 : W.heap[w1.heap.size + 1 + 1 + 1]? = some (.cells #[.slice (some ⟨w1.heap.size + 1 + 1, 0, none⟩) 1 1] 35 (0, 0)) := by rw [hW]; exact blk_old (blk_new (by simp))
    have hF1 : W.heap[w1.heap.size + 1 + 1 + 1 + 1]? = some (.cells #[.nilFunc] 1 (0, 0)) := by rw [hW]; exact blk_new (by simp)
    have hBW : Below w1.heap.size w1 W := by rw [hW]; exact ((((below_alloc w1 _).alloc (by simp) _).alloc (by simp; omega) _).alloc (by simp; omega) _).alloc (by simp; omega) _
    have hzW : W.heap.size = w1.heap.size + 5 := by rw [hW]; simp
    have hOW : OwI W 3 (w1.heap.size + 1 + 1) (w1.heap.size + 1 + 1 + 1) (some ⟨w1.heap.size + 1 + 1, 0, none⟩) 1 [0] := by
      have h := OwI_one ((w1.alloc (.cells #[.slice x X.length c] 22)).alloc (.cells #[.slice x X.length c] 22)) 3 0
      simp only [World.size_alloc] at h
      rw [hW]
      exact (h.below (below_alloc _ _) (by simp)).below (below_alloc _ _) (by simp)
    have hXW : OwII W 3 35 w.heap.size w1.heap.size x c X := HO.out.below hBW (Nat.le_refl _)
    obtain ⟨jb, hjb⟩ : ∃ n, n = w1.heap.size := ⟨_, rfl⟩
    rw [← hjb] at hJ1 hB1 hO1 hF1 hBW hOW hXW hzW hz1 ⊢
    obtain ⟨bb, hbb⟩ : ∃ n, n = jb + 1 := ⟨_, rfl⟩
    rw [← hbb] at hB1 hO1 hF1 hOW ⊢
    obtain ⟨gb, hgb⟩ : ∃ n, n = bb + 1 := ⟨_, rfl⟩
    rw [← hgb] at hO1 hF1 hOW ⊢
    obtain ⟨ob, hob⟩ : ∃ n, n = gb + 1 := ⟨_, rfl⟩
    rw [← hob] at hO1 hF1 hOW ⊢
    obtain ⟨fb, hfb⟩ : ∃ n, n = ob + 1 := ⟨_, rfl⟩
    rw [← hfb] at hF1 ⊢
    have hi1 : jb < bb := by omega
    have hi2 : bb < gb := by omega
    have hi3 : gb < ob := by omega
    have hi4 : ob < fb := by omega
    have hi5 : fb < W.heap.size := by omega
    have HJB := Lib.hid hjb
    obtain ⟨f1, f2⟩ := blk1 hF1
    have hst : PlaceSt 3 35 22 1 89 jb bb (ob) (fb) w.heap.size jb X [0] X (W.setCell ⟨fb, 0, none⟩ (.func (.func 89) #[] #[.pointer (some ⟨ob, 0, none⟩), .pointer (some ⟨jb, 0, none⟩), .pointer (some ⟨bb, 0, none⟩), .pointer (some ⟨fb, 0, none⟩)])) := by
      refine ⟨x, c, x, c, gb, 1, w.heap.size, jb, blk_set_other _ hJ1 (by omega), blk_set_other _ hB1 (by omega), blk_set_other _ hO1 (by omega), blk_set _ (i := 0) hF1, hXW.rd.agr ((Agr.refl _ _ _).set (.inr (by omega)) _), Nat.le_refl _, hXW.agr ((Agr.refl _ _ _).set (.inr (by omega)) _), by simp; omega, .inl (Nat.le_refl _), ?_, by omega, by omega, .inr (by omega), by omega, by omega, by omega, Nat.le_refl _⟩
      exact (hOW.setOther (by omega)).mono (by omega) (by simp; omega)
    have HP := Lib.hid (place_any jb bb (ob) (fb) w.heap.size jb X HXS.out hX1 hX5 hz1 (X.length - 1) [0] X _ (PartO.one hX1) (by simp; omega) (by simp) rfl HXS.out rfl hst)
    rw [HPL.out] at HP
    have HBW := Lib.hid hBW
    clear hW hJ1 hB1 hO1 hF1 hBW hOW hXW hst hzW hjb hbb hgb hob hfb
    go_wp2_with fail
    refine HP.out.mono ?_
    rintro e w2 ⟨rfl, hst, hb2⟩
    obtain ⟨ja, jc, ba, bc, g, oc, Bb, Cb, hj, hb, ho, hf, hx, hcx, hbr, hcb, hsep, _, _, _, _, _, _, _, hbx⟩ := hst
    obtain ⟨q1, _⟩ := blk1 hb
    have HR := Lib.hid hbr
    have HL := Lib.hid ((leastC_len hi).trans HXE.out.symm)
    have hbb2 : bb < w2.heap.size := blk_lt hb
    have HB2 : Hid (Below w.heap.size w w2) := Lib.hid (by
      have h1 := HB.out.trans (HBW.out.mono hz1)
      have h2 := (h1.setCell (p := ⟨fb, 0, none⟩) (show w.heap.size ≤ fb by omega) (.func (.func 89) #[] #[.pointer (some ⟨ob, 0, none⟩), .pointer (some ⟨jb, 0, none⟩), .pointer (some ⟨bb, 0, none⟩), .pointer (some ⟨fb, 0, none⟩)]))
      exact h2.trans (hb2.mono hz1))
    clear hj hb ho hf hx hbr hb2
    go_wp2_with fail
    go_ret2
    rw [HN.out, ← HL.out]
    exact ⟨ba, bc, rfl, HR.out.mono hbx hcb, HB2.out⟩

set_option maxRecDepth 4000 in
set_option maxHeartbeats 400000 in
theorem eqRowsF_any (a a' : Option Addr) (cap cap' : Nat) (p p' : List (List Int)) (w : World) (B C B' C' : Nat) (h : RdII w B C a p) (h' : RdII w B' C' a' p') (hl : p.length ≤ maxLen) :
    Calls Tryz.prog 100 #[.slice a p.length cap, .slice a' p'.length cap', .func (.func 101) #[] #[]] w fun e w' => e = .returned (.bool (decide (p = p'))) ∧ Qt w w' := by
  unfold maxLen at hl
  by_cases hlen : p.length = p'.length
  · have hb : (((p.length : Nat) : Int) != ((p'.length : Nat) : Int)) = false := by simp [hlen]
    have Hlen := Lib.hid hlen
    clear hlen
    go_enter Tryz.func100, Tryz.ntmps100
    go_wp2_with fail
    clear hb
    go_loopw [6, 17] (fun r i wr => ∃ k : Nat, k ≤ p.length ∧ r = .bool false ∧ i = .int .i64 k ∧ p.take k = p'.take k ∧ Qt w wr) (fun _ i _ => p.length - (intOf i).toNat)
    case atStart => exact ⟨0, Nat.zero_le _, rfl, rfl, rfl, Qt.refl _⟩
    case round =>
      obtain ⟨k, hk, rfl, rfl, he, hq⟩ := hrel
      have HE := Lib.hid he
      have HQ := Lib.hid hq
      clear he hq
      by_cases hlt : k < p.length
      · have hlt' : k < p'.length := by have := Hlen.out; omega
        obtain ⟨b, off, x, c, rfl, _, _, hc, hr, hll⟩ := (h.agr HQ.out.agr).at k hlt
        obtain ⟨b', off', x', c', rfl, _, _, hc', hr', hll'⟩ := (h'.agr HQ.out.agr).at k hlt'
        have hki : (k : Int) < (p.length : Int) := by omega
        have hki' : (k : Int) < (p'.length : Int) := by omega
        have HR := Lib.hid hr
        have HR' := Lib.hid hr'
        have hc := slicesEqual_any x x' c c' p[k] p'[k] wr B C B' C' HR.out HR'.out hll
        clear h h' hr hr'
        by_cases hx : p[k] = p'[k]
        · have HX := Lib.hid hx
          rw [decide_eq_true hx] at hc
          have HC := Lib.hid hc
          clear hx hc
          go_wp2_with fail
          refine HC.out.mono ?_
          rintro e w2 ⟨rfl, hq2⟩
          have HQ2 := Lib.hid (HQ.out.trans hq2)
          clear hq2
          go_wp2_with fail
          go_roundw
          case rel => exact ⟨k + 1, by omega, rfl, by go_num, take_eq_succ hlt hlt' HE.out HX.out, HQ2.out⟩
          case measure => simp [intOf]; omega
        · have HX := Lib.hid hx
          rw [decide_eq_false hx] at hc
          have HC := Lib.hid hc
          clear hx hc
          go_wp2_with fail
          refine HC.out.mono ?_
          rintro e w2 ⟨rfl, hq2⟩
          have HQ2 := Lib.hid (HQ.out.trans hq2)
          clear hq2
          go_wp2_with fail
          go_ret
          exact ⟨ret_bool (by rw [decide_eq_false]; exact fun e => HX.out (by simp [e])), HQ2.out⟩
      · go_wp2_with fail
        go_ret
        exact ⟨ret_bool (by rw [decide_eq_true]; have e := HE.out; have := Hlen.out; rwa [List.take_of_length_le (by omega), List.take_of_length_le (by omega)] at e), HQ.out⟩
  · have hb : (((p.length : Nat) : Int) != ((p'.length : Nat) : Int)) = true := by simp; omega
    have hne : p ≠ p' := fun e => hlen (by rw [e])
    go_enter Tryz.func100, Tryz.ntmps100
    go_wp2_with fail
    go_ret
    exact ⟨ret_bool (by simp [hne]), Qt.refl _⟩

set_option maxRecDepth 4000 in
set_option maxHeartbeats 400000 in
theorem isLeast_any (a : Option Addr) (cap : Nat) (p : List (List Int)) (w : World) (B C : Nat) (h : RdII w B C a p) (hC : C ≤ w.heap.size) (hp : picB p = true) :
    Calls Tryz.prog 69 #[.slice a p.length cap] w fun e w' => e = .returned (.bool (leastB p)) ∧ Below w.heap.size w w' := by
  have F := Lib.hid h
  have h5 := (picB_sq hp).2
  have hq : leastQ p 0 = true := decide_eq_true (by have := (joinedL_fit (p := p) (i := 0) (by omega)).len; omega)
  have hd := leastOf_any a cap p 0 w B C F.out hC (picB_sq hp).1 (by omega) (by omega)
  rw [leastN_yes hq, hq] at hd
  have hlen : (leastC p 0).length ≤ 5 := by rw [leastC_len (by omega)]; exact of_decide_eq_true hq
  have HB : Hid (leastB p = decide (leastC p 0 = p)) := Lib.hid (by unfold leastB; rw [hp]; rfl)
  have HD := Lib.hid hd
  clear h hp hq hd
  go_enter Tryz.func69, Tryz.ntmps69
  go_wp2_with fail
  refine HD.out.mono ?_
  rintro e w1 ⟨x, c, rfl, ho, hb1⟩
  have HO := Lib.hid ho.rd
  have HB1 := Lib.hid hb1
  have F1 := Lib.hid (F.out.below hb1 hC)
  clear ho hb1
  go_wp2_with fail
  refine (eqRowsF_any x a c cap _ _ w1 _ _ _ _ HO.out F1.out (by unfold maxLen; omega)).mono ?_
  rintro e w2 ⟨rfl, hq⟩
  have HQ := Lib.hid (HB1.out.trans hq.below)
  clear hq
  rw [← HB.out]
  go_wp2_with fail
  go_ret
  exact ⟨rfl, HQ.out⟩

set_option maxRecDepth 4000 in
set_option maxHeartbeats 400000 in
theorem implLeastOk_any (a : Option Addr) (cap : Nat) (p : List (List Int)) (w : World) (B C : Nat) (h : RdII w B C a p) (hC : C ≤ w.heap.size) (hl : p.length ≤ maxLen) :
    Calls Tryz.prog 22 #[.slice a p.length cap] w fun e w' => e = .returned (.bool (leastB p)) ∧ Below w.heap.size w w' := by
  have F := Lib.hid h
  clear h
  cases hp : picB p
  · have HP := Lib.hid hp
    have HB : Hid (leastB p = false) := Lib.hid (by unfold leastB; rw [hp]; rfl)
    clear hp
    go_enter Tryz.func22, Tryz.ntmps22
    go_wp2_with fail
    refine (isPicture_any a cap p w _ _ F.out hl).mono ?_
    rintro e w' ⟨rfl, rfl⟩
    rw [HP.out]
    go_wp2_with fail
    go_ret
    exact ⟨ret_bool HB.out.symm, Below.refl _ _⟩
  · have HP := Lib.hid hp
    have HD := Lib.hid (isLeast_any a cap p w _ _ F.out hC hp)
    clear hp
    go_enter Tryz.func22, Tryz.ntmps22
    go_wp2_with fail
    refine (isPicture_any a cap p w _ _ F.out hl).mono ?_
    rintro e w' ⟨rfl, rfl⟩
    rw [HP.out]
    go_wp2_with fail
    refine HD.out.mono ?_
    rintro e w1 ⟨rfl, hb⟩
    have HB1 := Lib.hid hb
    clear hb
    go_wp2_with fail
    go_ret
    exact ⟨rfl, HB1.out⟩
end Go.Proofs.YtfjodcfbhpglhaaGreatDoor
namespace Go.Hyp
open Go.RowKit Go.Deep
theorem bes_one (P : List (List Int)) : besL (mat 1 1 fun _ _ => false) P = mat (P.length + 1) (P.length + 1) (putF P fun _ => false) := by
  unfold besL
  rw [mat_len, Nat.add_comm 1 P.length]
  refine mat_congr fun i j hi hj => ?_
  unfold besF putF
  rw [mat_len]
  by_cases h0 : i = 0
  · subst h0
    rw [if_pos (by omega), if_pos rfl, Bool.and_false]
    by_cases hj0 : j < 1
    · rw [mat_arr _ _ _ _ _ (by omega) hj0, Bool.and_false]
    · rw [decide_eq_false hj0]; rfl
  · rw [if_neg (by omega), if_neg h0]
/-- The members that a list names. -/
def inF (L : List Int) (v : Nat) : Bool := decide ((v : Int) ∈ L)
theorem inF_nil : inF [] = fun _ => false := by funext v; simp [inF]
theorem putF_step {P : List (List Int)} {L : List Int} {k v : Nat} (hk : k < L.length) (hv : L[k] = (v : Int)) (x y : Nat) : putF P (inF (L.take (k + 1))) x y = if x = 0 ∧ y = v + 1 then true else putF P (inF (L.take k)) x y := by
  unfold putF
  by_cases hx : x = 0
  · rw [if_pos hx, if_pos hx]
    by_cases hy : y = v + 1
    · rw [if_pos ⟨hx, hy⟩, decide_eq_true (by omega), Bool.true_and]
      unfold inF
      rw [List.take_succ_eq_append_getElem hk, hv]
      exact decide_eq_true (by rw [show y - 1 = v by omega]; simp)
    · rw [if_neg (fun h => hy h.2)]
      by_cases h1 : 1 ≤ y
      · rw [decide_eq_true h1, Bool.true_and, Bool.true_and]
        unfold inF
        rw [List.take_succ_eq_append_getElem hk, hv]
        rw [Bool.eq_iff_iff, decide_eq_true_eq, decide_eq_true_eq, List.mem_append]
        constructor
        · rintro (h | h)
          · exact h
          · simp at h; omega
        · exact .inl
      · rw [decide_eq_false h1]; rfl
  · rw [if_neg hx, if_neg hx, if_neg (fun h => hx h.1)]
/-- What PairOf answers. -/
def pairQ (p : List (List Int)) (n : Int) (q : List (List Int)) (m : Int) : Bool := nodeB p n && nodeB q m && pairB p n.toNat q m.toNat
def pairS (p : List (List Int)) (n : Int) (q : List (List Int)) (m : Int) : List (List Int) := if (nodeB p n && nodeB q m) = true then pairR p n.toNat q m.toNat else []
theorem pairs_no {p q : List (List Int)} {n m : Int} (h : (nodeB p n && nodeB q m) = false) : pairQ p n q m = false ∧ pairS p n q m = [] := by
  unfold pairQ pairS; rw [h]; exact ⟨rfl, rfl⟩
theorem pairs_yes {p q : List (List Int)} {i j : Nat} (h : nodeB p i = true) (k : nodeB q j = true) : pairQ p i q j = pairB p i q j ∧ pairS p i q j = pairR p i q j := by
  unfold pairQ pairS; rw [h, k, Int.toNat_natCast, Int.toNat_natCast]; exact ⟨rfl, rfl⟩
theorem pair_in {p q : List (List Int)} {i j : Nat} : putB (besL p q) (inF [(i : Int), ((p.length : Int) + (j : Int))]) = pairB p i q j ∧ putR (besL p q) (inF [(i : Int), ((p.length : Int) + (j : Int))]) = pairR p i q j :=
  putR_alike fun v _ => by
    unfold inF pairF
    rw [Bool.eq_iff_iff]
    simp
    omega
theorem pairOf_small (p : List (List Int)) (n : Int) (q : List (List Int)) (m : Int) : (pairS p n q m).length ≤ 1048576 ∧ lens (pairS p n q m) ≤ 1048576 := by
  unfold pairS
  split
  · exact putR_small _ _
  · exact ⟨by simp, by show 0 ≤ _; omega⟩
end Go.Hyp
namespace Go.Proofs.YtfjodcfbhpglhaaGreatDoor
open Go.RowKit Go.Hyp Go.Deep

set_option maxRecDepth 4000 in
set_option maxHeartbeats 800000 in
theorem withMembers_any (a : Option Addr) (cap : Nat) (P : List (List Int)) (al : Option Addr) (cl : Nat) (L : List Int) (w : World) (B C B' C' : Nat) (h : RdII w B C a P) (hC : C ≤ w.heap.size) (hs : Sq P) (hl : P.length ≤ 16)
    (h' : RdI w B' C' al L) (hC' : C' ≤ w.heap.size) (hL : ∀ k (hk : k < L.length), ∃ v : Nat, L[k] = v ∧ v < P.length) (hll : L.length ≤ 64) :
    Calls Tryz.prog 50 #[.slice a P.length cap, .slice al L.length cl] w (RetIIB 3 35 (putR P (inF L)) (putB P (inF L)) w) := by
  have F := Lib.hid h
  have F' := Lib.hid h'
  have HS := Lib.hid hs
  have HLM := Lib.hid hL
  have HE0 := Lib.hid (emptyPicture_any 1 w (by omega))
  clear h h' hs hL
  go_enter Tryz.func50, Tryz.ntmps50
  go_wp2_with fail
  refine HE0.out.mono ?_
  rintro e w1 ⟨x, c, rfl, ho, hb⟩
  rw [mat_len]
  have HB1 := Lib.hid hb
  have HX := Lib.hid ho.rd
  have F1 := Lib.hid (F.out.below hb hC)
  have hz1 : w.heap.size ≤ w1.heap.size := hb.size
  clear ho hb HE0
  have hbes := beside_any x c (mat 1 1 fun _ _ => false) a cap P w1 _ _ _ _ HX.out (Nat.le_refl _) (mat_sq _ _) F1.out (by omega) HS.out (by rw [mat_len]; omega)
  rw [mat_len, bes_one] at hbes
  have HBES := Lib.hid hbes
  clear hbes
  go_wp2_with fail
  refine HBES.out.mono ?_
  intro e w2 hret
  obtain ⟨y, d, rfl, ho, hb⟩ := hret.toM
  obtain ⟨N, hN⟩ : ∃ N, N = P.length + 1 := ⟨_, rfl⟩
  rw [← hN] at ho ⊢
  have HB2 := Lib.hid (HB1.out.trans (hb.mono hz1))
  have HO2 := Lib.hid (ho.mono hz1 (Nat.le_refl _))
  have hNN : N ≤ 17 := by omega
  have HN := Lib.hid hN
  have hN0 : 0 < N := by omega
  clear ho hb hret hN HBES
  go_wp2_with fail
  go_loopw [14] (fun i wr => ∃ k : Nat, k ≤ L.length ∧ i = .int .i64 k ∧ OwII wr 3 35 w.heap.size wr.heap.size y d (mat N N (putF P (inF (L.take k)))) ∧ Below w.heap.size w wr) (fun i _ => L.length - (intOf i).toNat)
  case atStart => exact ⟨0, Nat.zero_le _, rfl, by rw [List.take_zero, inF_nil]; exact HO2.out, HB2.out⟩
  case round =>
    obtain ⟨k, hk, rfl, ho, hb⟩ := hrel
    have HO := Lib.hid ho
    have HB := Lib.hid hb
    have hzr : w.heap.size ≤ wr.heap.size := hb.size
    clear ho hb HO2
    obtain ⟨wq, hwq⟩ : ∃ x, x = wr := ⟨_, rfl⟩
    subst hwq
    by_cases hlt : k < L.length
    · have hki : (k : Int) < (L.length : Int) := by omega
      obtain ⟨v, hv, hvP⟩ := HLM.out k hlt
      obtain ⟨b, off, rfl, _, hbC, hd⟩ := (F'.out.below HB.out hC').at k hlt
      rw [hv] at hd
      have hvN : v + 1 < N := by have := HN.out; omega
      have hvi : (v : Int) + 1 < (N : Int) := by omega
      obtain ⟨g, r, ci, ea5, hg1, _, hgl, hhead, hr1, _, hrl, hq1, hq2, hgr, hput⟩ := HO.out.bitAt 0 (v + 1) hN0 hvN
      have HP := Lib.hid (hput true (putF P (inF (L.take (k + 1)))) (fun x y _ _ => putF_step hlt hv x y))
      have hbw : b < wq.heap.size := by omega
      have hN0i : (0 : Int) < (N : Int) := by omega
      subst ea5
      clear hv hput
      generalize hxx : (if putF P (inF (L.take k)) 0 (v + 1) = true then (1 : Int) else 0) = X0 at hq1
      clear hxx
      go_wp2_with fail
      go_roundw
      case rel =>
        have h9 := HP.out
        simp only [if_true] at h9
        exact ⟨k + 1, by omega, by go_num, h9.mono (Nat.le_refl _) (by simp), HB.out.setCell hr1 _⟩
      case measure => simp [intOf]; omega
    · obtain rfl : k = L.length := by omega
      have hlo := leastOf_any y d (putL P (inF L)) 0 wq w.heap.size wq.heap.size (by
        have h9 := HO.out.rd
        rw [List.take_of_length_le (Nat.le_refl _), HN.out] at h9
        exact h9) (Nat.le_refl _) (putL_sq _ _) (put_pos _ _) (by rw [putL_len]; omega)
      rw [putL_len, ← HN.out] at hlo
      have HLO := Lib.hid hlo
      clear hlo
      go_wp2_with fail
      refine HLO.out.mono ?_
      rintro e w3 ⟨u, f, rfl, ho, hb⟩
      have HO3 := Lib.hid (ho.mono hzr (Nat.le_refl _))
      have HB3 := Lib.hid (HB.out.trans (hb.mono hzr))
      clear ho hb
      go_wp2_with fail
      go_ret2
      exact ⟨u, f, rfl, HO3.out, HB3.out⟩

set_option maxRecDepth 4000 in
set_option maxHeartbeats 800000 in
theorem implPairOf_any (a : Option Addr) (cap : Nat) (p : List (List Int)) (n : Int) (a' : Option Addr) (cap' : Nat) (q : List (List Int)) (m : Int) (w : World) (B C B' C' : Nat) (h : RdII w B C a p) (hC : C ≤ w.heap.size) (hl : p.length ≤ maxLen) (h' : RdII w B' C' a' q) (hC' : C' ≤ w.heap.size) (hl' : q.length ≤ maxLen) :
    Calls Tryz.prog 26 #[.slice a p.length cap, .int .i64 n, .slice a' q.length cap', .int .i64 m] w (RetIIB 3 35 (pairS p n q m) (pairQ p n q m) w) := by
  have F := Lib.hid h
  have F' := Lib.hid h'
  have HLM := Lib.hid hl
  have HLM' := Lib.hid hl'
  clear h h' hl hl'
  cases h1 : nodeB p n
  · obtain ⟨e1, e2⟩ := pairs_no (p := p) (q := q) (n := n) (m := m) (by rw [h1]; rfl)
    rw [e1, e2]
    have HN1 := Lib.hid h1
    clear h1 e1 e2
    go_enter Tryz.func26, Tryz.ntmps26
    go_wp2_with fail
    refine (hasNode_any a cap p n w _ _ F.out HLM.out).mono ?_
    rintro e w' ⟨rfl, rfl⟩
    rw [HN1.out]
    go_wp2_with fail
    go_ret2
    exact ⟨none, 0, rfl, OwII_nil _ _ _ _ _, Below.refl _ _⟩
  · cases h2 : nodeB q m
    · obtain ⟨e1, e2⟩ := pairs_no (p := p) (q := q) (n := n) (m := m) (by rw [h1, h2]; rfl)
      rw [e1, e2]
      have HN1 := Lib.hid h1
      have HN2 := Lib.hid h2
      clear h1 h2 e1 e2
      go_enter Tryz.func26, Tryz.ntmps26
      go_wp2_with fail
      refine (hasNode_any a cap p n w _ _ F.out HLM.out).mono ?_
      rintro e w' ⟨rfl, rfl⟩
      rw [HN1.out]
      go_wp2_with fail
      refine (hasNode_any a' cap' q m w _ _ F'.out HLM'.out).mono ?_
      rintro e w' ⟨rfl, rfl⟩
      rw [HN2.out]
      go_wp2_with fail
      go_ret2
      exact ⟨none, 0, rfl, OwII_nil _ _ _ _ _, Below.refl _ _⟩
    · obtain ⟨i, rfl, hi, hp⟩ := nodeB_nat h1
      obtain ⟨j, rfl, hj, hq⟩ := nodeB_nat h2
      obtain ⟨e1, e2⟩ := pairs_yes h1 h2
      obtain ⟨e3, e4⟩ := pair_in (p := p) (q := q) (i := i) (j := j)
      rw [e1, e2, ← e3, ← e4]
      have HN1 := Lib.hid h1
      have HN2 := Lib.hid h2
      have hpp := picB_sq hp
      have hqq := picB_sq hq
      have hp5 := hpp.2.2
      have hq5 := hqq.2.2
      have HSP := Lib.hid hpp.1
      have HSQ := Lib.hid hqq.1
      have HBE := Lib.hid (beside_any a cap p a' cap' q w B C B' C' F.out hC hpp.1 F'.out hC' hqq.1 (by omega))
      have HBL := Lib.hid (besL_len p q)
      have hji : (p.length : Int) + (j : Int) ≤ 20 := by omega
      clear h1 h2 hp hq e1 e2 e3 e4 hpp hqq
      go_enter Tryz.func26, Tryz.ntmps26
      go_wp2_with fail
      refine (hasNode_any a cap p i w _ _ F.out HLM.out).mono ?_
      rintro e w' ⟨rfl, rfl⟩
      rw [HN1.out]
      go_wp2_with fail
      refine (hasNode_any a' cap' q j w _ _ F'.out HLM'.out).mono ?_
      rintro e w' ⟨rfl, rfl⟩
      rw [HN2.out]
      go_wp2_with fail
      refine HBE.out.mono ?_
      rintro e w1 ⟨x, c, rfl, ho, hb⟩
      have HB1 := Lib.hid hb
      have HX := Lib.hid ho.rd
      have hz1 : w.heap.size ≤ w1.heap.size := hb.size
      have hx16 : (besL p q).length ≤ 16 := by have := HBL.out; omega
      have HBT := Lib.hid (below_alloc w1 (.cells #[.int .i64 i, .int .i64 ((p.length : Int) + (j : Int))] 3))
      have HL2 : Hid (RdI (w1.alloc (.cells #[.int .i64 i, .int .i64 ((p.length : Int) + (j : Int))] 3)) w1.heap.size (w1.heap.size + 1) (some ⟨w1.heap.size, 0, none⟩) [(i : Int), ((p.length : Int) + (j : Int))]) := Lib.hid (fun k hk => by
        refine ⟨w1.heap.size, 0, rfl, Nat.le_refl _, Nat.lt_succ_self _, ?_⟩
        match k, hk with
        | 0, _ => exact blk_cell (alloc1 _ _) rfl
        | 1, _ => exact blk_cell (alloc1 _ _) rfl)
      have HWM := Lib.hid (withMembers_any x c (besL p q) (some ⟨w1.heap.size, 0, none⟩) 2 [(i : Int), ((p.length : Int) + (j : Int))] (w1.alloc (.cells #[.int .i64 i, .int .i64 ((p.length : Int) + (j : Int))] 3)) _ _ _ _ (HX.out.below HBT.out (Nat.le_refl _)) (by simp) (besL_sq _ _) hx16 HL2.out (by simp) (fun k hk => by
        match k, hk with
        | 0, _ => exact ⟨i, rfl, by have := HBL.out; omega⟩
        | 1, _ => exact ⟨p.length + j, by simp, by have := HBL.out; omega⟩) (by simp))
      clear ho hb hx16
      go_wp2_with fail
      refine HWM.out.mono ?_
      rintro e w2 ⟨y, d, rfl, ho, hb⟩
      have hb2 := HBT.out.trans (hb.mono (by simp))
      have HB2 := Lib.hid (HB1.out.trans (hb2.mono hz1))
      have HO2 := Lib.hid (ho.mono (show w.heap.size ≤ (w1.alloc (.cells #[.int .i64 i, .int .i64 ((p.length : Int) + (j : Int))] 3)).heap.size by simp; omega) (Nat.le_refl _))
      clear ho hb hb2
      go_wp2_with fail
      go_ret2
      exact ⟨y, d, rfl, HO2.out, HB2.out⟩
end Go.Proofs.YtfjodcfbhpglhaaGreatDoor
namespace Go.Hyp
/-! ### what they answer -/
def togQ (p : List (List Int)) (n : Int) (q : List (List Int)) (m : Int) : Bool := nodeB p n && nodeB q m && togB p n.toNat q m.toNat
def togS (p : List (List Int)) (n : Int) (q : List (List Int)) (m : Int) : List (List Int) := if (nodeB p n && nodeB q m) = true then togR p n.toNat q m.toNat else []
theorem togs_no {p q : List (List Int)} {n m : Int} (h : (nodeB p n && nodeB q m) = false) : togQ p n q m = false ∧ togS p n q m = [] := by
  unfold togQ togS; rw [h]; exact ⟨rfl, rfl⟩
theorem togs_yes {p q : List (List Int)} {i j : Nat} (h : nodeB p i = true) (k : nodeB q j = true) : togQ p i q j = togB p i q j ∧ togS p i q j = togR p i q j := by
  unfold togQ togS; rw [h, k, Int.toNat_natCast, Int.toNat_natCast]; exact ⟨rfl, rfl⟩
theorem togetherOf_small (p : List (List Int)) (n : Int) (q : List (List Int)) (m : Int) : (togS p n q m).length ≤ 1048576 ∧ lens (togS p n q m) ≤ 1048576 := by
  unfold togS
  split
  · exact putR_small _ _
  · exact ⟨by simp, by show 0 ≤ _; omega⟩
def woQ (p : List (List Int)) (n : Int) (q : List (List Int)) (m : Int) : Bool := nodeB p n && nodeB q m && woB p n.toNat q m.toNat
def woS (p : List (List Int)) (n : Int) (q : List (List Int)) (m : Int) : List (List Int) := if (nodeB p n && nodeB q m) = true then woR p n.toNat q m.toNat else []
theorem wos_no {p q : List (List Int)} {n m : Int} (h : (nodeB p n && nodeB q m) = false) : woQ p n q m = false ∧ woS p n q m = [] := by
  unfold woQ woS; rw [h]; exact ⟨rfl, rfl⟩
theorem wos_yes {p q : List (List Int)} {i j : Nat} (h : nodeB p i = true) (k : nodeB q j = true) : woQ p i q j = woB p i q j ∧ woS p i q j = woR p i q j := by
  unfold woQ woS; rw [h, k, Int.toNat_natCast, Int.toNat_natCast]; exact ⟨rfl, rfl⟩
theorem withoutSet_small (p : List (List Int)) (n : Int) (q : List (List Int)) (m : Int) : (woS p n q m).length ≤ 1048576 ∧ lens (woS p n q m) ≤ 1048576 := by
  unfold woS
  split
  · exact putR_small _ _
  · exact ⟨by simp, by show 0 ≤ _; omega⟩
theorem inF_arr {P : List (List Int)} {i v : Nat} (hv : v < P.length) : inF (arrL P i P.length) v = arr P i v := by
  unfold inF
  rw [Bool.eq_iff_iff, decide_eq_true_eq, arrL_mem]
  constructor
  · rintro ⟨k, e, _, h⟩
    have : v = k := by omega
    subst this; exact h
  · intro h; exact ⟨v, rfl, hv, h⟩
theorem inF_app (L M : List Int) (v : Nat) : inF (L ++ M) v = (inF L v || inF M v) := by
  unfold inF
  rw [Bool.eq_iff_iff]
  simp
theorem tog_in {p q : List (List Int)} {i j : Nat} (N : Nat) (hN : N = (besL p q).length) : putB (besL p q) (inF (arrL (besL p q) i N ++ arrL (besL p q) (p.length + j) N)) = togB p i q j ∧ putR (besL p q) (inF (arrL (besL p q) i N ++ arrL (besL p q) (p.length + j) N)) = togR p i q j := by
  subst hN
  exact putR_alike fun v hv => by rw [inF_app, inF_arr hv, inF_arr hv]; rfl
/-- The members that are kept. -/
def keepL (p : List (List Int)) (i : Nat) (q : List (List Int)) (j : Nat) : List Int := (arrL p i p.length).filter fun x => !sameB p x.toNat q j
theorem inF_keep {p q : List (List Int)} {i j v : Nat} (hv : v < p.length) : inF (keepL p i q j) v = woF p i q j v := by
  unfold inF keepL woF
  rw [Bool.eq_iff_iff, decide_eq_true_eq, List.mem_filter, arrL_mem, Int.toNat_natCast, Bool.and_eq_true]
  constructor
  · rintro ⟨⟨k, e, _, h⟩, h2⟩
    have : v = k := by omega
    subst this; exact ⟨h, h2⟩
  · rintro ⟨h, h2⟩; exact ⟨⟨v, rfl, hv, h⟩, h2⟩
theorem wo_in2 {p q : List (List Int)} {i j : Nat} : putB p (inF (keepL p i q j)) = woB p i q j ∧ putR p (inF (keepL p i q j)) = woR p i q j := putR_alike fun v hv => inF_keep hv
theorem bes_nil {p : List (List Int)} (hs : Sq p) : besL p [] = p := by
  refine (besL_sq p []).ext hs (by rw [besL_len]; rfl) fun i j hi hj => ?_
  rw [besL_len] at hi hj
  simp at hi hj
  rw [besL_left hi (by simpa using hj), decide_eq_true hj]; rfl
/-! ### the laws -/
theorem put_node {P : List (List Int)} {m : Nat → Bool} (h : putB P m = true) : nodeB (putR P m) 0 = true ∧ 0 < (putR P m).length ∧ (putR P m).length ≤ 5 := ⟨node0 (putR_pic h), (picB_sq (putR_pic h)).2⟩
theorem has_of {x p : List (List Int)} {i : Nat} (hx : nodeB x 0 = true) (hp : nodeB p i = true) (h : ∃ u, Mem x 0 u ∧ Same p i x u) : hasB x 0 p i = true := by
  obtain ⟨i', e, hi, _⟩ := nodeB_nat hp
  have e : i = i' := by omega
  subst e
  have e2 := hasB_yes (p := x) (q := p) (i := 0) (j := i) hx hp
  refine e2.trans ((hasL_mem hi).2 ?_)
  obtain ⟨u, hu, hs⟩ := h
  exact ⟨u, hu, hs.symm⟩
/-- All that FnPairOf asks of a pair that is told. -/
theorem pair_law {p q : List (List Int)} {i j : Nat} (h1 : nodeB p i = true) (h2 : nodeB q j = true) (h : pairQ p i q j = true) :
    leastB (pairS p i q j) = true ∧ hasB (pairS p i q j) 0 p i = true ∧ hasB (pairS p i q j) 0 q j = true ∧ manyI (pairS p i q j) 0 = (if sameSetB p i q j = true then 1 else 2) ∧ pairQ q j p i = true ∧ pairS q j p i = pairS p i q j ∧ 0 < (pairS p i q j).length ∧ (pairS p i q j).length ≤ 5 := by
  obtain ⟨e1, e2⟩ := pairs_yes h1 h2
  obtain ⟨e3, e4⟩ := pairs_yes h2 h1
  obtain ⟨_, ei, hi, _⟩ := nodeB_nat h1
  obtain ⟨_, ej, hj, _⟩ := nodeB_nat h2
  have hi : i < p.length := by omega
  have hj : j < q.length := by omega
  rw [e1] at h
  obtain ⟨s1, s2⟩ := pair_swap hi hj
  have hd := putR_draws h
  obtain ⟨n0, l0, l5⟩ := put_node h
  obtain ⟨m1, m2, m3⟩ := pair_has hi hj hd
  rw [e2, e3, e4, ← s1, ← s2]
  refine ⟨leastB_put h, has_of n0 h1 m1, has_of n0 h2 m2, ?_, h, rfl, l0, l5⟩
  have e5 := many_card (p := pairR p i q j) (i := 0) n0
  refine Eq.trans e5 ?_
  have e9 : cardN (pairR p i q j) 0 = if sameB p i q j = true then 1 else 2 := pair_card hi hj l0 hd
  rw [e9]
  have e6 : sameSetB p i q j = sameB p i q j := by rw [Bool.eq_iff_iff, sameSetB_iff h1 h2, sameB_iff hi hj]
  rw [e6]
  split <;> rfl
theorem own_law : nodeB ownP 0 = true ∧ pairQ ownP 0 ownP 0 = true ∧ pairS ownP 0 ownP 0 = ownP := by
  have h : nodeB ownP 0 = true := by decide
  obtain ⟨e1, e2⟩ := pairs_yes (p := ownP) (q := ownP) (i := 0) (j := 0) h h
  exact ⟨h, e1.trans pair_own.1, e2.trans pair_own.2⟩
theorem in_of {p x : List (List Int)} {i j : Nat} (hp : nodeB p i = true) (hx : nodeB x j = true) (h : ∀ v, Mem p i v → ∃ u, Mem x j u ∧ Same p v x u) : inB p i x j = true := by
  rw [inB_yes hp hx, inL_mem]
  intro v hv
  obtain ⟨u, h3, h4⟩ := h v hv
  exact ⟨u, h3, h4.symm⟩
/-- All that FnTogetherOf asks. -/
theorem tog_law {p q : List (List Int)} {i j : Nat} (h1 : nodeB p i = true) (h2 : nodeB q j = true) (h : togQ p i q j = true) :
    leastB (togS p i q j) = true ∧ inB p i (togS p i q j) 0 = true ∧ inB q j (togS p i q j) 0 = true ∧ manyI (togS p i q j) 0 ≤ manyI p i + manyI q j ∧ togQ q j p i = true ∧ togS q j p i = togS p i q j ∧
      togQ p i p i = true ∧ sameSetB (togS p i p i) 0 p i = true ∧ 0 < (togS p i q j).length ∧ (togS p i q j).length ≤ 5 ∧ (togS p i p i).length ≤ 5 := by
  obtain ⟨e1, e2⟩ := togs_yes h1 h2
  obtain ⟨e3, e4⟩ := togs_yes h2 h1
  obtain ⟨e7, e8⟩ := togs_yes h1 h1
  obtain ⟨_, ei, hi, hp⟩ := nodeB_nat h1
  obtain ⟨_, ej, hj, _⟩ := nodeB_nat h2
  have hi : i < p.length := by omega
  have hj : j < q.length := by omega
  rw [e1] at h
  obtain ⟨s1, s2⟩ := tog_swap hi hj
  have hd := putR_draws h
  obtain ⟨n0, l0, l5⟩ := put_node h
  obtain ⟨m1, m2, m3⟩ := tog_has hi hj hd
  have ho := tog_own hi
  have hob : togB p i p i = true := put_told hi (picB_sq hp).2.2 ho
  obtain ⟨n1, k0, k5⟩ := put_node (P := besL p p) (m := togF p p i i) hob
  rw [e2, e3, e4, e7, e8, ← s1, ← s2]
  refine ⟨leastB_put h, in_of (j := 0) h1 n0 m1, in_of (j := 0) h2 n0 m2, ?_, h, rfl, hob, ?_, l0, l5, k5⟩
  · have e5 := many_card (p := togR p i q j) (i := 0) n0
    have h5 : manyI (togR p i q j) 0 = (cardN (togR p i q j) 0 : Int) := e5
    rw [h5, many_card h1, many_card h2]
    have e9 : cardN (togR p i q j) 0 ≤ cardN p i + cardN q j := tog_card hi hj hd
    omega
  · exact (sameSetB_iff (p := togR p i p i) (i := 0) n1 h1).2 ((putR_draws (P := besL p p) (m := togF p p i i) hob).symm.trans ho)
/-- All that FnWithoutSet asks. -/
theorem wo_law {p q : List (List Int)} {i j : Nat} (h1 : nodeB p i = true) (h2 : nodeB q j = true) (h : woQ p i q j = true) :
    leastB (woS p i q j) = true ∧ hasB (woS p i q j) 0 q j = false ∧ inB (woS p i q j) 0 p i = true ∧ manyI (woS p i q j) 0 = manyI p i - (if hasB p i q j = true then 1 else 0) ∧ (hasB p i q j = false → sameSetB (woS p i q j) 0 p i = true) ∧ 0 < (woS p i q j).length ∧ (woS p i q j).length ≤ 5 := by
  obtain ⟨e1, e2⟩ := wos_yes h1 h2
  obtain ⟨_, ei, hi, hp⟩ := nodeB_nat h1
  obtain ⟨_, ej, hj, _⟩ := nodeB_nat h2
  have hi : i < p.length := by omega
  have hj : j < q.length := by omega
  rw [e1] at h
  have hd := putR_draws h
  obtain ⟨n0, l0, l5⟩ := put_node h
  have hh := hasB_yes h1 h2
  rw [e2, hh]
  refine ⟨leastB_put h, ?_, ?_, ?_, fun hn => ?_, l0, l5⟩
  · exact (hasB_yes (p := woR p i q j) (i := 0) n0 h2).trans (wo_not hj hd)
  · exact (inB_yes (p := woR p i q j) (i := 0) n0 h1).trans (wo_in hj hd)
  · have e5 : manyI (woR p i q j) 0 = (cardN (woR p i q j) 0 : Int) := many_card (p := woR p i q j) (i := 0) n0
    rw [e5, many_card h1]
    have e9 : cardN (woR p i q j) 0 + (if hasL p i q j = true then 1 else 0) = cardN p i := wo_card l0 hj hd
    by_cases hc : hasL p i q j = true
    · rw [if_pos hc] at e9 ⊢; omega
    · rw [if_neg hc] at e9 ⊢; omega
  · exact (sameSetB_iff (p := woR p i q j) (i := 0) n0 h1).2 (wo_same hi hj hd hn)
/-- Where it is not told, it is empty. -/
theorem pairs_none {p q : List (List Int)} {n m : Int} (h : pairQ p n q m = false) : pairS p n q m = [] := by
  unfold pairQ at h
  unfold pairS
  split
  · rename_i h1
    rw [h1, Bool.true_and] at h
    exact putR_no h
  · rfl
theorem togs_none {p q : List (List Int)} {n m : Int} (h : togQ p n q m = false) : togS p n q m = [] := by
  unfold togQ at h
  unfold togS
  split
  · rename_i h1
    rw [h1, Bool.true_and] at h
    exact putR_no h
  · rfl
theorem wos_none {p q : List (List Int)} {n m : Int} (h : woQ p n q m = false) : woS p n q m = [] := by
  unfold woQ at h
  unfold woS
  split
  · rename_i h1
    rw [h1, Bool.true_and] at h
    exact putR_no h
  · rfl
theorem many_le2 {p : List (List Int)} {i : Nat} (h : nodeB p i = true) : 0 ≤ manyI p i ∧ manyI p i ≤ 5 := by
  obtain ⟨_, e, hi, hp⟩ := nodeB_nat h
  have h5 := (picB_sq hp).2.2
  rw [many_card h]
  unfold cardN
  have h1 := manyN_le p (arrL p i p.length) (arrL p i p.length).length
  have h2 := arrL_le p i p.length
  omega
theorem many_le {x : List (List Int)} (h : x.length ≤ 5) : -1 ≤ manyI x 0 ∧ manyI x 0 ≤ 5 := by
  unfold manyI
  split
  · have h1 := manyN_le x (arrL x (0 : Int).toNat x.length) (arrL x (0 : Int).toNat x.length).length
    have h2 := arrL_le x (0 : Int).toNat x.length
    omega
  · omega
theorem q_nodes {p q : List (List Int)} {n m : Int} {b : Bool} (h : (nodeB p n && nodeB q m && b) = true) : ∃ i j : Nat, n = i ∧ m = j ∧ nodeB p i = true ∧ nodeB q j = true := by
  simp only [Bool.and_eq_true] at h
  obtain ⟨i, rfl, _, _⟩ := nodeB_nat h.1.1
  obtain ⟨j, rfl, _, _⟩ := nodeB_nat h.1.2
  exact ⟨i, j, rfl, rfl, h.1.1, h.1.2⟩
end Go.Hyp
namespace Go.Hyp
open Go.RowKit Go.Deep
theorem rowOf_set {N i : Nat} {f g : Nat → Bool} (b : Bool) (hg : g i = b) (ho : ∀ y, y ≠ i → g y = f y) : (rowOf N f).set i (if b then 1 else 0) = rowOf N g := by
  apply List.ext_getElem (by simp [rowOf_len])
  intro k h1 h2
  rw [List.getElem_set]
  rw [rowOf_len] at h2
  by_cases e : i = k
  · subst e; rw [if_pos rfl, rowOf_get, hg]
  · rw [if_neg e, rowOf_get, rowOf_get, ho k (fun h => e h.symm)]
/-- One row in new memory is a slice of rows. -/
theorem rows_one (w : World) (E R n : Nat) (hn : n ≤ maxLen) : OwII ((w.alloc (.cells (madeCells #[.int .i64 0] n) E)).alloc (.cells #[.slice (some ⟨w.heap.size, 0, none⟩) n n] R)) E R w.heap.size (w.heap.size + 2) (some ⟨w.heap.size + 1, 0, none⟩) 1 (mat 1 n fun _ _ => false) := by
  have hr := World.rowIs_alloc (w.alloc (.cells (madeCells #[.int .i64 0] n) E)) #[.slice (some ⟨w.heap.size, 0, none⟩) n n] R (fun _ => .slice (some ⟨w.heap.size, 0, none⟩) n n) (fun i hi => by
    have : i = 0 := by simp at hi; omega
    subst this; rfl)
  have hs : (w.alloc (.cells (madeCells #[.int .i64 0] n) E)).heap.size = w.heap.size + 1 := by simp
  rw [hs] at hr
  have e0 : (mat 1 n fun _ _ => false).getD 0 [] = rowOf n fun _ => false := mat_get? _ _ _ _ (by omega)
  refine ⟨fun _ => some ⟨w.heap.size, 0, none⟩, fun _ => n, .inr ⟨w.heap.size + 1, _, rfl, by omega, by omega, hr, by rw [mat_len]; simp, by unfold maxLen; simp, fun i hi => ?_⟩, fun i hi => ?_, fun i j hij hj => ?_, fun i hi x y hx hy => ?_⟩
  · rw [mat_len] at hi
    have : i = 0 := by omega
    subst this
    show Value.slice _ n n = Value.slice _ ((mat 1 n fun _ _ => false).getD 0 []).length n
    rw [e0, rowOf_len]
  · rw [mat_len] at hi
    have : i = 0 := by omega
    subst this
    rw [e0]
    exact ((OwI_zeros w E n hn).agr ((Agr.refl _ _ _).alloc (by simp) _)).mono (Nat.le_refl _) (by omega)
  · rw [mat_len] at hj; omega
  · injection hx with hx; injection hy with hy; subst hx; subst hy; simp
/-- The members that two lists name, the second one's behind n1 nodes. -/
def l6F (n1 : Nat) (A B : List Int) (u : Nat) : Bool := inF A u || (decide (n1 ≤ u) && inF B (u - n1))
/-- The first row. -/
def r0F (n1 : Nat) (A B : List Int) (y : Nat) : Bool := decide (1 ≤ y) && l6F n1 A B (y - 1)
theorem inF_succ {L : List Int} {k v : Nat} (hk : k < L.length) (hv : L[k] = (v : Int)) (u : Nat) : inF (L.take (k + 1)) u = (inF (L.take k) u || decide (u = v)) := by
  unfold inF
  rw [List.take_succ_eq_append_getElem hk, hv, Bool.eq_iff_iff]
  simp only [Bool.or_eq_true, decide_eq_true_eq, List.mem_append, List.mem_singleton]
  constructor
  · rintro (h | h)
    · exact .inl h
    · exact .inr (by omega)
  · rintro (h | h)
    · exact .inl h
    · exact .inr (by omega)
theorem r0F_left {n1 : Nat} {A B : List Int} {k v : Nat} (hk : k < A.length) (hv : A[k] = (v : Int)) (x y : Nat) (hx : x < 1) : r0F n1 (A.take (k + 1)) B y = if x = 0 ∧ y = 1 + v then true else r0F n1 (A.take k) B y := by
  have hx0 : x = 0 := by omega
  unfold r0F l6F
  rw [inF_succ hk hv]
  by_cases hy : y = 1 + v
  · rw [if_pos ⟨hx0, hy⟩, decide_eq_true (p := 1 ≤ y) (by omega), decide_eq_true (p := y - 1 = v) (by omega)]; simp
  · rw [if_neg (fun h => hy h.2)]
    by_cases h1 : 1 ≤ y
    · rw [decide_eq_false (p := y - 1 = v) (by omega), Bool.or_false]
    · rw [decide_eq_false h1]; rfl
theorem r0F_right {n1 : Nat} {A B : List Int} {k v : Nat} (hk : k < B.length) (hv : B[k] = (v : Int)) (x y : Nat) (hx : x < 1) : r0F n1 A (B.take (k + 1)) y = if x = 0 ∧ y = 1 + n1 + v then true else r0F n1 A (B.take k) y := by
  have hx0 : x = 0 := by omega
  unfold r0F l6F
  rw [inF_succ hk hv]
  by_cases hy : y = 1 + n1 + v
  · rw [if_pos ⟨hx0, hy⟩, decide_eq_true (p := 1 ≤ y) (by omega), decide_eq_true (p := n1 ≤ y - 1) (by omega), decide_eq_true (p := y - 1 - n1 = v) (by omega)]; simp
  · rw [if_neg (fun h => hy h.2)]
    by_cases h1 : 1 ≤ y
    · by_cases h2 : n1 ≤ y - 1
      · rw [decide_eq_false (p := y - 1 - n1 = v) (by omega), Bool.or_false]
      · rw [decide_eq_false h2]; simp
    · rw [decide_eq_false h1]; rfl
theorem r0F_nil (n1 y : Nat) : r0F n1 [] [] y = false := by unfold r0F l6F; rw [inF_nil]; simp
/-- The row of node k of the first picture (or of the second one, behind n1 nodes), its first j places laid. -/
def rkF (p : List (List Int)) (k n1 j y : Nat) : Bool := decide (1 + n1 ≤ y) && (decide (y - 1 - n1 < j) && arr p k (y - 1 - n1))
theorem rkF_zero (p : List (List Int)) (k n1 N : Nat) : rowOf N (rkF p k n1 0) = rowOf N fun _ => false := rowOf_congr fun y _ => by unfold rkF; rw [decide_eq_false (p := y - 1 - n1 < 0) (by omega)]; simp
theorem rkF_set {p : List (List Int)} {k n1 j N i : Nat} (hi : i = 1 + n1 + j) : (rowOf N (rkF p k n1 j)).set i (if arr p k j then 1 else 0) = rowOf N (rkF p k n1 (j + 1)) := by
  refine rowOf_set _ ?_ fun y hy => ?_
  · unfold rkF
    rw [decide_eq_true (by omega), decide_eq_true (p := i - 1 - n1 < j + 1) (by omega), show i - 1 - n1 = j by omega]; rfl
  · unfold rkF
    by_cases h1 : 1 + n1 ≤ y
    · have : decide (y - 1 - n1 < j + 1) = decide (y - 1 - n1 < j) := by
        by_cases h2 : y - 1 - n1 < j
        · rw [decide_eq_true h2, decide_eq_true (by omega)]
        · rw [decide_eq_false h2, decide_eq_false (by omega)]
      rw [this]
    · rw [decide_eq_false h1]; rfl
theorem rkF_left {p q : List (List Int)} {m : Nat → Bool} {k : Nat} (hk : k < p.length) : rowOf (p.length + q.length + 1) (rkF p k 0 p.length) = rowOf (p.length + q.length + 1) (putF (besL p q) m (k + 1)) := rowOf_congr fun y hy => by
  unfold rkF putF
  rw [if_neg (by omega), Nat.add_zero, Nat.sub_zero, show k + 1 - 1 = k by omega]
  by_cases h1 : 1 ≤ y
  · rw [besL_left hk (by omega)]
  · rw [decide_eq_false h1]; rfl
theorem rkF_right {p q : List (List Int)} {m : Nat → Bool} {k : Nat} (hk : k < q.length) : rowOf (p.length + q.length + 1) (rkF q k p.length q.length) = rowOf (p.length + q.length + 1) (putF (besL p q) m (p.length + k + 1)) := rowOf_congr fun y hy => by
  unfold rkF putF
  rw [if_neg (by omega), show p.length + k + 1 - 1 = p.length + k by omega]
  by_cases h1 : 1 ≤ y
  · rw [decide_eq_true h1, besL_right hk (by omega)]
    by_cases h2 : 1 + p.length ≤ y
    · rw [decide_eq_true h2, decide_eq_true (p := p.length ≤ y - 1) (by omega), decide_eq_true (p := y - 1 - p.length < q.length) (by omega)]
    · rw [decide_eq_false h2, decide_eq_false (p := p.length ≤ y - 1) (by omega)]; rfl
  · rw [decide_eq_false h1, decide_eq_false (p := 1 + p.length ≤ y) (by omega)]; rfl
end Go.Hyp
namespace Go.Proofs.YtfjodcfbhpglhaaGreatDoor
open Go.RowKit Go.Hyp Go.Deep

set_option maxRecDepth 4000 in
set_option maxHeartbeats 4000000 in
theorem l6Put_any (a : Option Addr) (cap : Nat) (p : List (List Int)) (a' : Option Addr) (cap' : Nat) (q : List (List Int)) (a1 : Option Addr) (c1 : Nat) (L1 : List Int) (a2 : Option Addr) (c2 : Nat) (L2 : List Int) (w : World) (B C B' C' B1 C1 B2 C2 : Nat)
    (h : RdII w B C a p) (hC : C ≤ w.heap.size) (hs : Sq p) (hl : p.length ≤ 5) (h' : RdII w B' C' a' q) (hC' : C' ≤ w.heap.size) (hs' : Sq q) (hl' : q.length ≤ 5)
    (h1 : RdI w B1 C1 a1 L1) (hC1 : C1 ≤ w.heap.size) (hL1 : ∀ k (hk : k < L1.length), ∃ v : Nat, L1[k] = v ∧ v < p.length) (hn1 : L1.length ≤ 64)
    (h2 : RdI w B2 C2 a2 L2) (hC2 : C2 ≤ w.heap.size) (hL2 : ∀ k (hk : k < L2.length), ∃ v : Nat, L2[k] = v ∧ v < q.length) (hn2 : L2.length ≤ 64) :
    Calls Tryz.prog 43 #[.slice a p.length cap, .slice a' q.length cap', .slice a1 L1.length c1, .slice a2 L2.length c2] w (RetII 3 35 (putL (besL p q) (l6F p.length L1 L2)) w) := by
  have F := Lib.hid h
  have F' := Lib.hid h'
  have G1 := Lib.hid h1
  have G2 := Lib.hid h2
  have HS := Lib.hid hs
  have HS' := Lib.hid hs'
  have HL1 := Lib.hid hL1
  have HL2 := Lib.hid hL2
  clear h h' h1 h2 hs hs' hL1 hL2
  obtain ⟨N, hN⟩ : ∃ N, N = p.length + q.length + 1 := ⟨_, rfl⟩
  have hNi : (1 : Int) + (p.length : Int) + (q.length : Int) = (N : Int) := by omega
  have hN11 : N ≤ 11 := by omega
  have hN0 : 0 < N := by omega
  have HN := Lib.hid hN
  have hNp : p.length < N := by omega
  have hNpq : p.length + q.length < N := by omega
  have hmk := run_make_row' (P := Tryz.prog) 35 3 _ _ Tryz.underlying35 Tryz.infoInt rfl .i64 .i64 N (by omega) (by omega)
  have HR1 := Lib.hid (rows_one w 3 35 N (by unfold maxLen; omega))
  have HB0 := Lib.hid ((below_alloc w (.cells (madeCells #[.int .i64 0] N) 3)).alloc (by simp) (.cells #[.slice (some ⟨w.heap.size, 0, none⟩) N N] 35))
  clear hN
  go_enter Tryz.func43, Tryz.ntmps43
  go_wp2_with fail
  clear hNi
  go_loopw [11] (fun i wr => ∃ k : Nat, k ≤ L1.length ∧ i = .int .i64 k ∧ OwII wr 3 35 w.heap.size wr.heap.size (some ⟨w.heap.size + 1, 0, none⟩) 1 (mat 1 N fun _ y => r0F p.length (L1.take k) [] y) ∧ Below w.heap.size w wr) (fun i _ => L1.length - (intOf i).toNat)
  case atStart => exact ⟨0, Nat.zero_le _, rfl, (HR1.out.matCongr (fun x y _ _ => by rw [List.take_zero, r0F_nil])).mono (Nat.le_refl _) (by simp), HB0.out⟩
  case round =>
    obtain ⟨k, hk, rfl, ho, hb⟩ := hrel
    have HO := Lib.hid ho
    have HB := Lib.hid hb
    have hzr : w.heap.size ≤ wr.heap.size := hb.size
    clear ho hb HR1 HB0
    obtain ⟨wq, hwq⟩ : ∃ x, x = wr := ⟨_, rfl⟩
    subst hwq
    by_cases hlt : k < L1.length
    · have hki : (k : Int) < (L1.length : Int) := by omega
      obtain ⟨v, hv, hvP⟩ := HL1.out k hlt
      obtain ⟨b, off, rfl, _, hbC, hd⟩ := (G1.out.below HB.out hC1).at k hlt
      rw [hv] at hd
      have hvN : 1 + v < N := by omega
      have hvi : (1 : Int) + (v : Int) < (N : Int) := by omega
      obtain ⟨g, r, ci, ea5, hg1, _, hgl, hhead, hr1, _, hrl, hq1, hq2, hgr, hput⟩ := HO.out.bitAt 0 (1 + v) (by omega) hvN
      have HP := Lib.hid (hput true (fun _ y => r0F p.length (L1.take (k + 1)) [] y) (fun x y hx _ => r0F_left hlt hv x y hx))
      have hbw : b < wq.heap.size := by omega
      cases ea5
      clear hv hput
      generalize hxx : (if r0F p.length (L1.take k) [] (1 + v) = true then (1 : Int) else 0) = X0 at hq1
      clear hxx
      go_wp2_with fail
      go_region
      go_wp2_with fail
      go_roundw
      case rel =>
        have h9 := HP.out
        simp only [if_true] at h9
        exact ⟨k + 1, by omega, by go_num, h9.mono (Nat.le_refl _) (by simp), (HB.out.setCell hr1 _).drew⟩
      case measure => simp [intOf]; omega
    · obtain rfl : k = L1.length := by omega
      have HO1 : Hid (OwII wq 3 35 w.heap.size wq.heap.size (some ⟨w.heap.size + 1, 0, none⟩) 1 (mat 1 N fun _ y => r0F p.length L1 [] y)) := Lib.hid (by have h9 := HO.out; rw [List.take_of_length_le (Nat.le_refl _)] at h9; exact h9)
      clear HO
      go_wp2_with fail
      go_loopw [12] (fun i wr => ∃ k : Nat, k ≤ L2.length ∧ i = .int .i64 k ∧ OwII wr 3 35 w.heap.size wr.heap.size (some ⟨w.heap.size + 1, 0, none⟩) 1 (mat 1 N fun _ y => r0F p.length L1 (L2.take k) y) ∧ Below w.heap.size w wr) (fun i _ => L2.length - (intOf i).toNat)
      case atStart => exact ⟨0, Nat.zero_le _, rfl, by rw [List.take_zero]; exact HO1.out, HB.out⟩
      case round =>
        obtain ⟨k, hk, rfl, ho, hb⟩ := hrel
        have HO2 := Lib.hid ho
        have HB2 := Lib.hid hb
        have hzr2 : w.heap.size ≤ wr.heap.size := hb.size
        clear ho hb HO1 HB
        obtain ⟨w2, hwq⟩ : ∃ x, x = wr := ⟨_, rfl⟩
        subst hwq
        by_cases hlt : k < L2.length
        · have hki : (k : Int) < (L2.length : Int) := by omega
          obtain ⟨v, hv, hvP⟩ := HL2.out k hlt
          obtain ⟨b, off, rfl, _, hbC, hd⟩ := (G2.out.below HB2.out hC2).at k hlt
          rw [hv] at hd
          have hvN : 1 + p.length + v < N := by omega
          have hvi : (1 : Int) + (p.length : Int) + (v : Int) < (N : Int) := by omega
          obtain ⟨g, r, ci, ea5, hg1, _, hgl, hhead, hr1, _, hrl, hq1, hq2, hgr, hput⟩ := HO2.out.bitAt 0 (1 + p.length + v) (by omega) hvN
          have HP := Lib.hid (hput true (fun _ y => r0F p.length L1 (L2.take (k + 1)) y) (fun x y hx _ => r0F_right hlt hv x y hx))
          have hbw : b < w2.heap.size := by omega
          cases ea5
          clear hv hput
          generalize hxx : (if r0F p.length L1 (L2.take k) (1 + p.length + v) = true then (1 : Int) else 0) = X0 at hq1
          clear hxx
          go_wp2_with fail
          go_region
          go_wp2_with fail
          go_roundw
          case rel =>
            have h9 := HP.out
            simp only [if_true] at h9
            exact ⟨k + 1, by omega, by go_num, h9.mono (Nat.le_refl _) (by simp), (HB2.out.setCell hr1 _).drew⟩
          case measure => simp [intOf]; omega
        · obtain rfl : k = L2.length := by omega
          obtain ⟨M, hM⟩ : ∃ M, M = putL (besL p q) (l6F p.length L1 L2) := ⟨_, rfl⟩
          have hMt : ∀ k, k < N → M.take (k + 1) = M.take k ++ [rowOf N (putF (besL p q) (l6F p.length L1 L2) k)] := fun k hk => by
            have e : putL (besL p q) (l6F p.length L1 L2) = mat (p.length + q.length + 1) (p.length + q.length + 1) (putF (besL p q) (l6F p.length L1 L2)) := by unfold putL; rw [besL_len]
            rw [hM, HN.out, e]
            exact mat_take _ _ _ k (by have := HN.out; omega)
          have hM1 : M.take 1 = mat 1 N fun _ y => r0F p.length L1 L2 y := by
            rw [hMt 0 hN0, List.take_zero]
            rfl
          have HO3 : Hid (OwII w2 3 35 w.heap.size w2.heap.size (some ⟨w.heap.size + 1, 0, none⟩) 1 (M.take 1)) := Lib.hid (by have h9 := HO2.out; rw [List.take_of_length_le (Nat.le_refl _), ← hM1] at h9; exact h9)
          have HMT := Lib.hid hMt
          have HM := Lib.hid hM
          have HML : Hid ((M.take 1).length = 1) := Lib.hid (by rw [hM1, mat_len])
          rw [← hM]
          clear HO2 hMt hM1 hM
          go_wp2_with fail
          go_loopw [10, 13] (fun o i wr => ∃ (x : Option Addr) (c : Nat) (P : List (List Int)) (k : Nat), k ≤ p.length ∧ i = .int .i64 k ∧ o = .slice x P.length c ∧ P = M.take (k + 1) ∧ P.length = k + 1 ∧ OwII wr 3 35 w.heap.size wr.heap.size x c P ∧ Below w.heap.size w wr) (fun _ i _ => p.length - (intOf i).toNat)
          case atStart => exact ⟨_, 1, M.take 1, 0, Nat.zero_le _, rfl, by rw [HML.out], rfl, HML.out, HO3.out, HB2.out⟩
          case round =>
            obtain ⟨x, c, P, k, hk, rfl, rfl, hP, hPl, ho, hb⟩ := hrel
            have HP := Lib.hid hP
            have HPL := Lib.hid hPl
            have hPm : P.length ≤ 12 := by omega
            have HO := Lib.hid ho
            have HB := Lib.hid hb
            have hzr3 : w.heap.size ≤ wr.heap.size := hb.size
            clear hP hPl ho hb HO3 HB2
            by_cases hlt : k < p.length
            · have hki : (k : Int) < (p.length : Int) := by omega
              have HL0 := Lib.hid (OwI_zeros wr 3 N (by unfold maxLen; omega))
              have HBA := Lib.hid (HB.out.alloc hzr3 (.cells (madeCells #[.int .i64 0] N) 3))
              have HPA := Lib.hid (HO.out.below (below_alloc wr (.cells (madeCells #[.int .i64 0] N) 3)) (Nat.le_refl _))
              obtain ⟨wk, hwk⟩ : ∃ wk : World, wk = wr := ⟨_, rfl⟩
              subst hwk
              clear HO HB
              go_wp2_with fail
              go_loopw [15] (fun i wi => ∃ (j : Nat) (L : List Int), j ≤ p.length ∧ i = .int .i64 j ∧ L = rowOf N (rkF p k 0 j) ∧ OwI wi 3 wk.heap.size (wk.heap.size + 1) (some ⟨wk.heap.size, 0, none⟩) N L ∧ OwII wi 3 35 w.heap.size wk.heap.size x c P ∧ Below w.heap.size w wi ∧ wk.heap.size + 1 ≤ wi.heap.size) (fun i _ => p.length - (intOf i).toNat)
              case atStart => exact ⟨0, _, Nat.zero_le _, rfl, (rkF_zero p k 0 N).symm, HL0.out, HPA.out, HBA.out, by simp⟩
              case round =>
                obtain ⟨j, L, hj, rfl, hLr, hli, hpi, hbi, hzi⟩ := hrel
                have HLR := Lib.hid hLr
                have HLI := Lib.hid hli
                have HPI := Lib.hid hpi
                have HBI := Lib.hid hbi
                clear hLr hli hpi hbi HL0 HPA HBA
                by_cases hlt2 : j < p.length
                · have hji : (j : Int) < (p.length : Int) := by omega
                  have hjN : 1 + j < N := by omega
                  have hjNi : (1 : Int) + (j : Int) < (N : Int) := by omega
                  have hLl : L.length = N := by rw [HLR.out, rowOf_len]
                  obtain ⟨gx, hgx, _, _, hd6, hfz6, hgl6⟩ := HLI.out.cells (1 + j) (by rw [hLl]; exact hjN)
                  cases hgx
                  obtain ⟨b5, o5, b5', o5', c5', rfl, _, hb5, hc5, _, hb5', hd5⟩ := (F.out.below HBI.out hC).bit HS.out k j hlt hlt2
                  have hset := rkF_set (p := p) (k := k) (n1 := 0) (j := j) (N := N) (i := 1 + j) (by omega)
                  rw [← HLR.out] at hset
                  have HSET := Lib.hid hset
                  have HLL := Lib.hid hLl
                  clear hset
                  cases hx : arr p k j
                  all_goals
                    rw [hx] at hd5 HSET
                    simp only [Bool.false_eq_true, if_false, if_true] at hd5 HSET
                    clear hx
                    go_wp2_with fail
                    go_roundw
                    case rel => exact ⟨j + 1, _, by omega, by go_num, HSET.out, HLI.out.setAt (1 + j) (by rw [HLL.out]; exact hjN) _, HPI.out.agr ((Agr.refl _ _ _).set (by omega) _), HBI.out.setCell (p := ⟨wk.heap.size, 1 + j, none⟩) hzr3 _, by simp; omega⟩
                    case measure => simp [intOf]; omega
                · obtain rfl : j = p.length := by omega
                  have hLl : L.length = N := by rw [HLR.out, rowOf_len]
                  have HLL := Lib.hid hLl
                  have HTK : Hid (M.take (k + 1 + 1) = P ++ [L]) := Lib.hid (by
                    rw [HMT.out (k + 1) (by omega), HP.out, HLR.out]
                    have h9 := rkF_left (p := p) (q := q) (m := l6F p.length L1 L2) hlt
                    rw [← HN.out] at h9
                    rw [h9])
                  obtain ⟨wq, hwq⟩ : ∃ wq : World, wq = wr := ⟨_, rfl⟩
                  subst hwq
                  clear hLl
                  go_wp2_with (at_builtin; go_loud (refine wpList_appII Tryz.underlying22 Tryz.infoRow _ rfl _ _ rfl w.heap.size wk.heap.size x c P rfl (HPI.out.agr ((Agr.refl _ _ _).alloc (by omega) _)) (by simp; omega) (by simp; omega) ⟨wq.heap.size, 0, none⟩ (some ⟨wk.heap.size, 0, none⟩) N L rfl (by rw [HLL.out]; exact new_cellE _ _ _ rfl) wk.heap.size (wk.heap.size + 1) (HLI.out.agr ((Agr.refl _ _ _).alloc (by omega) _)) (Nat.le_refl _) (by omega) (by simp; omega) (by omega) ?_); intro a9 c9 w6 hown hgrow hat)
                  have HO6 := Lib.hid hown
                  have HB6 := Lib.hid (below_app HBI.out hgrow (HPI.out.app_in (Nat.le_refl _)) (Nat.le_refl _) (Nat.le_refl _))
                  clear hown hgrow hat
                  go_wp2_with fail
                  go_roundw
                  case rel =>
                    have e1 : (P ++ [L]).length = P.length + 1 := by simp
                    have e2 : P.length + 1 = k + 1 + 1 := by rw [HPL.out]
                    have e5 : Value.slice a9 (P.length + 1) c9 = .slice a9 (P ++ [L]).length c9 := by rw [e1]
                    first
                      | exact ⟨a9, c9, P ++ [L], k + 1, by omega, by go_num, e5, HTK.out.symm, e1.trans e2, HO6.out, HB6.out⟩
                      | ((repeat apply Exists.intro); exact ⟨⟨a9, c9, P ++ [L], k + 1, by omega, by go_num, e5, HTK.out.symm, e1.trans e2, HO6.out, HB6.out⟩, rfl⟩)
                  case measure => simp [intOf]; omega
            · obtain rfl : k = p.length := by omega
              go_wp2_with fail
              go_loopw [10, 16] (fun o i wr => ∃ (x : Option Addr) (c : Nat) (P : List (List Int)) (k : Nat), k ≤ q.length ∧ i = .int .i64 k ∧ o = .slice x P.length c ∧ P = M.take (p.length + k + 1) ∧ P.length = p.length + k + 1 ∧ OwII wr 3 35 w.heap.size wr.heap.size x c P ∧ Below w.heap.size w wr) (fun _ i _ => q.length - (intOf i).toNat)
              case atStart => exact ⟨x, c, P, 0, Nat.zero_le _, rfl, rfl, HP.out, HPL.out, HO.out, HB.out⟩
              case round =>
                obtain ⟨x, c, P, k, hk, rfl, rfl, hP, hPl, ho, hb⟩ := hrel
                have HP2 := Lib.hid hP
                have HPL2 := Lib.hid hPl
                have hPm : P.length ≤ 12 := by omega
                have HO4 := Lib.hid ho
                have HB4 := Lib.hid hb
                have hzr4 : w.heap.size ≤ wr.heap.size := hb.size
                clear hP hPl ho hb HO HB HP HPL
                by_cases hlt : k < q.length
                · have hki : (k : Int) < (q.length : Int) := by omega
                  have HL0 := Lib.hid (OwI_zeros wr 3 N (by unfold maxLen; omega))
                  have HBA := Lib.hid (HB4.out.alloc hzr4 (.cells (madeCells #[.int .i64 0] N) 3))
                  have HPA := Lib.hid (HO4.out.below (below_alloc wr (.cells (madeCells #[.int .i64 0] N) 3)) (Nat.le_refl _))
                  obtain ⟨wk, hwk⟩ : ∃ wk : World, wk = wr := ⟨_, rfl⟩
                  subst hwk
                  clear HO4 HB4
                  go_wp2_with fail
                  go_loopw [18] (fun i wi => ∃ (j : Nat) (L : List Int), j ≤ q.length ∧ i = .int .i64 j ∧ L = rowOf N (rkF q k p.length j) ∧ OwI wi 3 wk.heap.size (wk.heap.size + 1) (some ⟨wk.heap.size, 0, none⟩) N L ∧ OwII wi 3 35 w.heap.size wk.heap.size x c P ∧ Below w.heap.size w wi ∧ wk.heap.size + 1 ≤ wi.heap.size) (fun i _ => q.length - (intOf i).toNat)
                  case atStart => exact ⟨0, _, Nat.zero_le _, rfl, (rkF_zero q k p.length N).symm, HL0.out, HPA.out, HBA.out, by simp⟩
                  case round =>
                    obtain ⟨j, L, hj, rfl, hLr, hli, hpi, hbi, hzi⟩ := hrel
                    have HLR := Lib.hid hLr
                    have HLI := Lib.hid hli
                    have HPI := Lib.hid hpi
                    have HBI := Lib.hid hbi
                    clear hLr hli hpi hbi HL0 HPA HBA
                    by_cases hlt2 : j < q.length
                    · have hji : (j : Int) < (q.length : Int) := by omega
                      have hjN : 1 + p.length + j < N := by omega
                      have hjNi : (1 : Int) + (p.length : Int) + (j : Int) < (N : Int) := by omega
                      have hLl : L.length = N := by rw [HLR.out, rowOf_len]
                      obtain ⟨gx, hgx, _, _, hd6, hfz6, hgl6⟩ := HLI.out.cells (1 + p.length + j) (by rw [hLl]; exact hjN)
                      cases hgx
                      obtain ⟨b5, o5, b5', o5', c5', rfl, _, hb5, hc5, _, hb5', hd5⟩ := (F'.out.below HBI.out hC').bit HS'.out k j hlt hlt2
                      have hset := rkF_set (p := q) (k := k) (n1 := p.length) (j := j) (N := N) (i := 1 + p.length + j) rfl
                      rw [← HLR.out] at hset
                      have HSET := Lib.hid hset
                      have HLL := Lib.hid hLl
                      clear hset
                      cases hx : arr q k j
                      all_goals
                        rw [hx] at hd5 HSET
                        simp only [Bool.false_eq_true, if_false, if_true] at hd5 HSET
                        clear hx
                        go_wp2_with fail
                        go_roundw
                        case rel => exact ⟨j + 1, _, by omega, by go_num, HSET.out, HLI.out.setAt (1 + p.length + j) (by rw [HLL.out]; exact hjN) _, HPI.out.agr ((Agr.refl _ _ _).set (by omega) _), HBI.out.setCell (p := ⟨wk.heap.size, 1 + p.length + j, none⟩) hzr4 _, by simp; omega⟩
                        case measure => simp [intOf]; omega
                    · obtain rfl : j = q.length := by omega
                      have hLl : L.length = N := by rw [HLR.out, rowOf_len]
                      have HLL := Lib.hid hLl
                      have HTK : Hid (M.take (p.length + (k + 1) + 1) = P ++ [L]) := Lib.hid (by
                        rw [show p.length + (k + 1) + 1 = p.length + k + 1 + 1 by omega, HMT.out (p.length + k + 1) (by omega), HP2.out, HLR.out]
                        have h9 := rkF_right (p := p) (q := q) (m := l6F p.length L1 L2) hlt
                        rw [← HN.out] at h9
                        rw [h9])
                      obtain ⟨wq, hwq⟩ : ∃ wq : World, wq = wr := ⟨_, rfl⟩
                      subst hwq
                      clear hLl
                      go_wp2_with (at_builtin; go_loud (refine wpList_appII Tryz.underlying22 Tryz.infoRow _ rfl _ _ rfl w.heap.size wk.heap.size x c P rfl (HPI.out.agr ((Agr.refl _ _ _).alloc (by omega) _)) (by simp; omega) (by simp; omega) ⟨wq.heap.size, 0, none⟩ (some ⟨wk.heap.size, 0, none⟩) N L rfl (by rw [HLL.out]; exact new_cellE _ _ _ rfl) wk.heap.size (wk.heap.size + 1) (HLI.out.agr ((Agr.refl _ _ _).alloc (by omega) _)) (Nat.le_refl _) (by omega) (by simp; omega) (by omega) ?_); intro a9 c9 w6 hown hgrow hat)
                      have HO6 := Lib.hid hown
                      have HB6 := Lib.hid (below_app HBI.out hgrow (HPI.out.app_in (Nat.le_refl _)) (Nat.le_refl _) (Nat.le_refl _))
                      clear hown hgrow hat
                      go_wp2_with fail
                      go_roundw
                      case rel =>
                        have e1 : (P ++ [L]).length = P.length + 1 := by simp
                        have e2 : P.length + 1 = p.length + (k + 1) + 1 := by rw [HPL2.out]; omega
                        have e5 : Value.slice a9 (P.length + 1) c9 = .slice a9 (P ++ [L]).length c9 := by rw [e1]
                        first
                          | exact ⟨a9, c9, P ++ [L], k + 1, by omega, by go_num, e5, HTK.out.symm, e1.trans e2, HO6.out, HB6.out⟩
                          | ((repeat apply Exists.intro); exact ⟨⟨a9, c9, P ++ [L], k + 1, by omega, by go_num, e5, HTK.out.symm, e1.trans e2, HO6.out, HB6.out⟩, rfl⟩)
                      case measure => simp [intOf]; omega
                · obtain rfl : k = q.length := by omega
                  have HE : Hid (P = M) := Lib.hid (by
                    rw [HP2.out, List.take_of_length_le]
                    rw [HM.out, putL_len, besL_len]
                    exact Nat.le_refl _)
                  go_wp2_with fail
                  go_ret
                  exact retII_of (HE.out.trans HM.out) HO4.out HB4.out
end Go.Proofs.YtfjodcfbhpglhaaGreatDoor
namespace Go.Hyp
theorem pair_l6 {p q : List (List Int)} {i j : Nat} (hi : i < p.length) : putB (besL p q) (l6F p.length [(i : Int)] [(j : Int)]) = pairB p i q j ∧ putR (besL p q) (l6F p.length [(i : Int)] [(j : Int)]) = pairR p i q j :=
  putR_alike fun v _ => by
    unfold l6F inF pairF
    rw [Bool.eq_iff_iff]
    simp
    omega
end Go.Hyp
namespace Go.Proofs.YtfjodcfbhpglhaaGreatDoor
open Go.RowKit Go.Hyp Go.Deep

set_option maxRecDepth 4000 in
set_option maxHeartbeats 4000000 in
theorem l6Least_any (a : Option Addr) (cap : Nat) (p : List (List Int)) (w : World) (B C : Nat) (h : RdII w B C a p) (hC : C ≤ w.heap.size) (hs : Sq p) (hl : p.length ≤ 16) (h0 : 0 < p.length) :
    Calls Tryz.prog 42 #[.slice a p.length cap] w (RetIIB 3 35 (leastN p 0) (leastQ p 0) w) := by
  have F := Lib.hid h
  have HS := Lib.hid hs
  clear h hs
  go_enter Tryz.func42, Tryz.ntmps42
  go_wp2_with fail
  refine (l3Start_any p.length _ (by omega)).mono ?_
  rintro e w0 ⟨x, c, rfl, ho, hb⟩
  have O1 := Lib.hid ho
  have HB1 := Lib.hid hb
  clear ho hb
  go_wp2_with fail
  go_loopw [4, 5] (fun o i wr => ∃ (k : Nat) (y : Option Addr) (d : Nat), k ≤ p.length ∧ i = .int .i64 k ∧ o = .slice y p.length d ∧ OwII wr 3 35 w.heap.size wr.heap.size y d (mat p.length p.length (left p k)) ∧ Below w.heap.size w wr) (fun _ i _ => p.length - (intOf i).toNat)
  case atStart => exact ⟨0, x, c, Nat.zero_le _, rfl, rfl, O1.out.matCongr (fun _ _ _ _ => rfl), HB1.out⟩
  case round =>
    obtain ⟨k, y, d, hk, rfl, rfl, ho, hb⟩ := hrel
    have HO := Lib.hid ho
    have HB := Lib.hid hb
    clear ho hb O1 HB1
    by_cases hlt : k < p.length
    · go_wp2_with fail
      refine (l3Round_any a y cap d p (left p k) wr _ _ _ _ (F.out.below HB.out hC) HO.out.rd (Nat.le_trans hC HB.out.size) (Nat.le_refl _) HS.out (by omega)).mono ?_
      rintro e w2 ⟨x2, c2, rfl, ho2, hb2⟩
      have HO2 := Lib.hid ho2
      have HB2 := Lib.hid (HB.out.trans (hb2.mono HB.out.size))
      clear ho2 hb2
      go_wp2_with fail
      go_roundw
      case rel => exact ⟨k + 1, x2, c2, by omega, by go_num, rfl, (HO2.out.mono HB.out.size (Nat.le_refl _)).matCongr (fun x y _ _ => (left_round p k x y).symm), HB2.out⟩
      case measure => simp [intOf]; omega
    · obtain rfl : k = p.length := by omega
      obtain ⟨w1, hw1⟩ : ∃ v : World, v = wr := ⟨_, rfl⟩
      subst hw1
      have hz1 : w.heap.size ≤ w1.heap.size := HB.out.size
      have HX := Lib.hid HO.out.rd
      have F1 := Lib.hid (F.out.below HB.out hC)
      have HO0 := Lib.hid (OwI_empty w1 3)
      have HBK0 := Lib.hid (below_alloc w1 (.cells #[] 3))
      clear HO
      go_wp2_with fail
      go_loopw [6, 7] (fun o i wr => ∃ (k : Nat) (ax : Option Addr) (cx : Nat), k ≤ p.length ∧ i = .int .i64 k ∧ o = .slice ax (kindsL p k).length cx ∧ OwI wr 3 w1.heap.size wr.heap.size ax cx (kindsL p k) ∧ Below w1.heap.size w1 wr) (fun _ i _ => p.length - (intOf i).toNat)
      case atStart => exact ⟨0, _, 0, Nat.zero_le _, rfl, rfl, HO0.out.mono (Nat.le_refl _) (by simp), HBK0.out⟩
      case round =>
        obtain ⟨k, ax, cx, hk, rfl, rfl, ho, hb⟩ := hrel
        have HO := Lib.hid ho
        have HBK := Lib.hid hb
        have hkl := kindsL_len p k
        have hkl2 : (kindsL p k).length ≤ 16 := by omega
        have hzr : w1.heap.size ≤ wr.heap.size := hb.size
        clear ho hb hkl HO0 HBK0
        by_cases hlt : k < p.length
        · obtain ⟨k1, k2, k3, k4⟩ := kind_spec hlt
          have HK4 := Lib.hid k4
          have HK2 := Lib.hid k2
          have hki : (k : Int) < (p.length : Int) := by omega
          clear k2 k4
          obtain ⟨wk, hwk⟩ : ∃ v : World, v = wr := ⟨_, rfl⟩
          subst hwk
          go_wp2_with fail
          go_loopw [6, 8] (fun o i wr => ∃ j : Nat, j ≤ kind p k ∧ i = .int .i64 j ∧ o = .slice ax (kindsL p k).length cx ∧ wr = wk) (fun _ i _ => kind p k - (intOf i).toNat)
          case atStart => exact ⟨0, Nat.zero_le _, rfl, rfl, rfl⟩
          case round =>
            obtain ⟨j, hj, rfl, rfl, rfl⟩ := hrel
            have hjp : j < p.length := by omega
            have hji : (j : Int) < (p.length : Int) := by omega
            obtain ⟨b1, off1, b1', off1', c1', rfl, _, hbc1, hc1, _, hbc2, hd1⟩ := (HX.out.below HBK.out (Nat.le_refl _)).bit (mat_sq _ _) k j (by rw [mat_len]; exact hlt) (by rw [mat_len]; exact hjp)
            rw [mat_len] at hc1
            rw [mat_arr _ _ _ _ _ hlt hjp] at hd1
            by_cases hjk : j < kind p k
            · have hno : left p p.length k j = false := HK4.out j hjk
              rw [hno] at hd1
              simp only [Bool.false_eq_true, if_false] at hd1
              clear hno
              go_wp2_with fail
              go_roundw
              case rel => exact ⟨j + 1, by omega, by go_num, rfl, by first | rfl | trivial⟩
              case measure => simp [intOf]; omega
            · obtain rfl : j = kind p k := by omega
              have hyes : left p p.length k (kind p k) = true := HK2.out
              rw [hyes] at hd1
              simp only [if_true] at hd1
              clear hyes
              obtain ⟨K, hK⟩ : ∃ K : Nat, K = kind p k := ⟨_, rfl⟩
              rw [← hK] at hd1 hji hjp ⊢
              have HKK := Lib.hid hK
              clear hK
              go_wp2_with (at_builtin; go_loud (refine wpList_appI Tryz.underlying35 Tryz.infoInt _ rfl _ _ rfl w1.heap.size wr.heap.size ax cx (kindsL p k) rfl (HO.out.agr ((Agr.refl _ _ _).alloc (Nat.le_refl _) _)) (by simp; omega) ⟨wr.heap.size, 0, none⟩ K rfl (new_cellE _ _ _ rfl) (by omega) ?_); intro g2 c2 w3 hown hgrow hat hg2)
              have HO3 := Lib.hid hown
              have HB3 := Lib.hid (below_app HBK.out hgrow (HO.out.app_in (Nat.le_refl _)) (Nat.le_refl _) (Nat.le_refl _))
              have HL2 : Hid (kindsL p (k + 1) = kindsL p k ++ [(K : Int)]) := Lib.hid (by rw [kindsL_succ, HKK.out])
              clear hown hgrow hat
              go_wp2_with fail
              go_roundw
              case rel => exact ⟨k + 1, some ⟨g2, 0, none⟩, c2, by omega, by go_num, by rw [HL2.out]; simp, by rw [HL2.out]; exact HO3.out, HB3.out⟩
              case measure => simp [intOf]; omega
        · obtain rfl : k = p.length := by omega
          rw [kindsL_len]
          obtain ⟨w2, hw2⟩ : ∃ v : World, v = wr := ⟨_, rfl⟩
          subst hw2
          have HK := Lib.hid HO.out.rd
          have HBW2 := Lib.hid (HB.out.trans (HBK.out.mono hz1))
          have F2 := Lib.hid (F1.out.below HBK.out (by omega))
          have HL0 := Lib.hid (OwI_one w2 3 0)
          have HBL0 := Lib.hid (below_alloc w2 (.cells #[.int .i64 0] 3))
          have hzw2 : w.heap.size ≤ w2.heap.size := by omega
          clear HO F1
          go_wp2_with fail
          go_loopw [9, 10] (fun o c wr => ∃ (t : Nat) (l : List Nat) (x : Option Addr) (cc : Nat), t ≤ l.length ∧ c = .int .i64 t ∧ Bfs p t 0 l ∧ o = .slice x l.length cc ∧ OwI wr 3 w2.heap.size wr.heap.size x cc (natL l) ∧ Below w2.heap.size w2 wr) (fun _ c _ => p.length - (intOf c).toNat)
          case atStart => exact ⟨0, [0], _, 1, by simp, rfl, Bfs.start h0, rfl, HL0.out.mono (Nat.le_refl _) (by simp), HBL0.out⟩
          case round =>
            obtain ⟨t, l, x, cc, ht, rfl, hbf, rfl, ho, hb⟩ := hrel
            have HBF := Lib.hid hbf
            have hll := hbf.len
            have HO := Lib.hid ho
            have HBR := Lib.hid hb
            have hzr2 : w2.heap.size ≤ wr.heap.size := hb.size
            clear hbf ho hb HL0 HBL0
            by_cases hlt : t < l.length
            · have hti : (t : Int) < (l.length : Int) := by omega
              obtain ⟨wt, hwt⟩ : ∃ v : World, v = wr := ⟨_, rfl⟩
              subst hwt
              go_wp2_with fail
              go_loopw [9, 11] (fun o c wr => ∃ (j : Nat) (l : List Nat) (x : Option Addr) (cc : Nat), j ≤ p.length ∧ t < l.length ∧ c = .int .i64 j ∧ Bfs p t j l ∧ o = .slice x l.length cc ∧ OwI wr 3 w2.heap.size wr.heap.size x cc (natL l) ∧ Below w2.heap.size w2 wr) (fun _ c _ => p.length - (intOf c).toNat)
              case atStart => exact ⟨0, l, x, cc, Nat.zero_le _, hlt, rfl, HBF.out, rfl, HO.out, HBR.out⟩
              case round =>
                obtain ⟨V, l, x, cc, hV, hlt, rfl, hbf, rfl, ho, hb⟩ := hrel
                have HBF2 := Lib.hid hbf
                have hll2 := hbf.len
                have HOJ := Lib.hid ho
                have HBJ := Lib.hid hb
                have hzr3 : w2.heap.size ≤ wr.heap.size := hb.size
                have hti2 : (t : Int) < (l.length : Int) := by omega
                clear hbf ho hb HBF HO HBR hti
                obtain ⟨wv, hwv⟩ : ∃ v : World, v = wr := ⟨_, rfl⟩
                subst hwv
                by_cases hltV : V < p.length
                · have hVi : (V : Int) < (p.length : Int) := by omega
                  obtain ⟨T, hT⟩ : ∃ T, T = l.getD t 0 := ⟨_, rfl⟩
                  have hTp : T < p.length := by rw [hT]; exact (HBF2.out.node t hlt).1
                  have hTi : (T : Int) < (p.length : Int) := by omega
                  obtain ⟨b0, o0, rfl, _, hb0, hd0⟩ := HOJ.out.rd.at t (by rw [natL_len]; exact hlt)
                  rw [natL_get, ← hT] at hd0
                  obtain ⟨b5, o5, b5', o5', c5', rfl, _, hb5, hc5, _, hb5', hd5⟩ := (F2.out.below HBJ.out (by omega)).bit HS.out T V hTp hltV
                  have HTT := Lib.hid hT
                  have h00 : frshB p l V 0 = true := rfl
                  have H00 := Lib.hid h00
                  obtain ⟨A, hA⟩ : ∃ A, A = arr p T V := ⟨_, rfl⟩
                  rw [← hA] at hd5
                  have HAA := Lib.hid hA
                  have hge : (if A = true then (1 : Int) else 0) = 1 ∨ (if A = true then (1 : Int) else 0) = 0 := by cases A <;> simp
                  have hbe : ((if A = true then (1 : Int) else 0) == 1) = A := by cases A <;> rfl
                  obtain ⟨Z, hZ⟩ : ∃ Z : Int, Z = if A = true then (1 : Int) else 0 := ⟨_, rfl⟩
                  rw [← hZ] at hd5 hbe
                  clear hT h00 hA hge hZ
                  go_wp2_with fail
                  clear hbe
                  go_loopw [12, 13] (fun f c wi => ∃ (m : Nat) (b : Bool), m ≤ l.length ∧ c = .int .i64 m ∧ f = .bool b ∧ (A && frshB p l V m) = b ∧ Qt wv wi) (fun _ c _ => l.length - (intOf c).toNat)
                  case atStart => exact ⟨0, A, Nat.zero_le _, rfl, rfl, by rw [H00.out, Bool.and_true], Qt.refl _⟩
                  case round =>
                    obtain ⟨j, fb, hj, rfl, rfl, hfb, hq⟩ := hrel
                    have HQ := Lib.hid hq
                    have HFB := Lib.hid hfb
                    have HBI := Lib.hid (HBJ.out.trans hq.below)
                    have HOI := Lib.hid (HOJ.out.agr hq.agr)
                    have hzi : w2.heap.size ≤ wr.heap.size := (HBJ.out.trans (hq.below (B := w2.heap.size))).size
                    clear hq hfb
                    by_cases hlt2 : j < l.length
                    · obtain ⟨U, hU⟩ : ∃ U, U = l.getD j 0 := ⟨_, rfl⟩
                      have hUp : U < p.length := by rw [hU]; exact (HBF2.out.node j hlt2).1
                      have hUi : (U : Int) < (p.length : Int) := by omega
                      have hji : (j : Int) < (l.length : Int) := by omega
                      have HFS := Lib.hid (frshB_succ (p := p) (v := V) hlt2)
                      rw [← hU] at HFS
                      obtain ⟨b1, o1, e1, _, hb1, hd1⟩ := HOI.out.rd.at j (by rw [natL_len]; exact hlt2)
                      cases e1
                      rw [natL_get, ← hU] at hd1
                      obtain ⟨b3, o3, rfl, _, hb3, hd3⟩ := (HK.out.below HBI.out (Nat.le_refl _)).at U (by rw [kindsL_len]; exact hUp)
                      rw [kindsL_get] at hd3
                      obtain ⟨b4, o4, e4, _, hb4, hd4⟩ := (HK.out.below HBI.out (Nat.le_refl _)).at V (by rw [kindsL_len]; exact hltV)
                      cases e4
                      rw [kindsL_get] at hd4
                      clear hU hd0 hc5 hd5
                      cases fb
                      · have HN : Hid ((A && frshB p l V (j + 1)) = false) := Lib.hid (by rw [HFS.out, ← Bool.and_assoc, HFB.out]; rfl)
                        go_wp2_with fail
                        go_quiet (fail)
                        go_wp2_with fail
                        go_roundw
                        case rel => exact ⟨j + 1, false, by omega, by go_num, rfl, HN.out, HQ.out.n _⟩
                        case measure => simp [intOf]; omega
                      · by_cases hkk : kind p U = kind p V
                        · have HN : Hid ((A && frshB p l V (j + 1)) = false) := Lib.hid (by rw [HFS.out, hkk]; simp)
                          rw [hkk] at hd3
                          obtain ⟨K, hK⟩ : ∃ K, K = kind p V := ⟨_, rfl⟩
                          rw [← hK] at hd3 hd4
                          clear hkk hK
                          go_wp2_with fail
                          go_quiet (fail)
                          go_wp2_with fail
                          go_roundw
                          case rel => exact ⟨j + 1, false, by omega, by go_num, rfl, HN.out, HQ.out.n _⟩
                          case measure => simp [intOf]; omega
                        · have HN : Hid ((A && frshB p l V (j + 1)) = true) := Lib.hid (by rw [HFS.out, ← Bool.and_assoc, HFB.out]; simp [hkk])
                          obtain ⟨K, hK⟩ : ∃ K, K = kind p V := ⟨_, rfl⟩
                          obtain ⟨J, hJ⟩ : ∃ J, J = kind p U := ⟨_, rfl⟩
                          rw [← hK] at hd4 hkk
                          rw [← hJ] at hd3 hkk
                          have hne : ((J : Int) != (K : Int)) = true := bne_iff_ne.2 (by omega)
                          clear hkk hK hJ
                          go_wp2_with fail
                          go_quiet (fail)
                          go_wp2_with fail
                          go_roundw
                          case rel => exact ⟨j + 1, true, by omega, by go_num, rfl, HN.out, HQ.out.n _⟩
                          case measure => simp [intOf]; omega
                    · obtain rfl : j = l.length := by omega
                      have HFA : Hid ((arr p (l.getD t 0) V && frshB p l V l.length) = fb) := Lib.hid (by rw [← HTT.out, ← HAA.out]; exact HFB.out)
                      have hwvr : wv.heap.size ≤ wr.heap.size := (HQ.out.below (B := wv.heap.size)).size
                      clear hd0 hc5 hd5
                      cases fb
                      · have HN := Lib.hid (HBF2.out.stay HFA.out)
                        go_wp2_with fail
                        go_roundw
                        case rel => exact ⟨V + 1, l, _, cc, by omega, hlt, by go_num, HN.out, rfl, HOI.out.mono (Nat.le_refl _) hwvr, HBI.out⟩
                        case measure => simp [intOf]; omega
                      · have HN := Lib.hid (HBF2.out.put hlt hltV HFA.out)
                        go_wp2_with (at_builtin; go_loud (refine wpList_appI Tryz.underlying35 Tryz.infoInt _ rfl _ _ rfl w2.heap.size wv.heap.size (some ⟨b0, o0, none⟩) cc (natL l) (by rw [natL_len]; rfl) (HOI.out.agr ((Agr.refl _ _ _).alloc (by omega) _)) (by simp; omega) ⟨wr.heap.size, 0, none⟩ V rfl (new_cellE _ _ _ rfl) (by rw [natL_len]; omega) ?_); intro g2 c2 w3 hown hgrow hat hg2; have HG := Lib.hid hgrow; have HO3 := Lib.hid hown; clear hown hgrow hat)
                        have HB3 := Lib.hid (below_app HBI.out HG.out (HOI.out.app_in (Nat.le_refl _)) (Nat.le_refl _) (Nat.le_refl _))
                        rw [natL_len]
                        go_wp2_with fail
                        go_roundw
                        case rel => exact ⟨V + 1, l ++ [V], some ⟨g2, 0, none⟩, c2, by omega, by rw [List.length_append]; omega, by go_num, HN.out, by rw [List.length_append]; rfl, by rw [natL_snoc]; exact HO3.out, HB3.out⟩
                        case measure => simp [intOf]; omega
                · obtain rfl : V = p.length := by omega
                  have HN := Lib.hid HBF2.out.next
                  go_wp2_with fail
                  go_roundw
                  case rel => exact ⟨t + 1, l, x, cc, by omega, by go_num, HN.out, rfl, HOJ.out, HBJ.out⟩
                  case measure => simp [intOf]; omega
            · obtain rfl : t = l.length := by omega
              have hfit := HBF.out.fit h0
              have hfl := fit_same_len h0 hfit
              have HBWR := Lib.hid (HBW2.out.trans (HBR.out.mono hzw2))
              by_cases h5 : l.length ≤ 5
              · have h5i : (l.length : Int) ≤ 5 := by omega
                have hq : leastQ p 0 = true := decide_eq_true (by omega)
                have HLS : Hid (leastR (joinM p l) 0 = leastN p 0) := Lib.hid ((fit_least h0 hfit h5).trans (leastN_yes hq).symm)
                have HQ := Lib.hid hq
                have HLN : Hid (∀ k, k < l.length → l.getD k 0 < p.length) := Lib.hid fun k hk => (HBF.out.node k hk).1
                have hjm : Hid ((joinM p l).length ≤ maxLen) := Lib.hid (by rw [joinM_len]; unfold maxLen; omega)
                clear hfit hfl hq
                go_wp2_with fail
                refine (l4Part_any a cap p _ _ x cc l wr _ _ _ _ _ _ (F2.out.below HBR.out (by omega)) (by omega) HS.out hl (HK.out.below HBR.out (Nat.le_refl _)) hzr2 HO.out.rd (Nat.le_refl _) HLN.out hll).mono ?_
                rintro e w3 ⟨x3, c3, rfl, ho3, hb3⟩
                have HO3 := Lib.hid ho3.rd
                have HB3 := Lib.hid (HBWR.out.trans (hb3.mono (by omega)))
                have hz3 : wr.heap.size ≤ w3.heap.size := hb3.size
                clear ho3 hb3
                go_wp2_with fail
                refine (specLeastOf_any x3 c3 (joinM p l) 0 w3 _ _ HO3.out (Nat.le_refl _) hjm.out).mono ?_
                rintro e w4 ⟨x4, c4, rfl, ho4, hb4⟩
                have HO4 := Lib.hid ho4
                have HB4 := Lib.hid (HB3.out.trans (hb4.mono (by omega)))
                clear ho4 hb4
                go_wp2_with fail
                go_ret2
                rw [HQ.out]
                exact retIIB_of HLS.out (HO4.out.mono (by omega) (Nat.le_refl _)) HB4.out
              · have h5i : (5 : Int) < (l.length : Int) := by omega
                have hq : leastQ p 0 = false := decide_eq_false (by omega)
                have HE := Lib.hid (leastN_no hq)
                have HQ := Lib.hid hq
                clear hfit hfl hq
                go_wp2_with fail
                go_ret2
                rw [HQ.out]
                exact retIIB_of (p := []) HE.out.symm ((OwII_empty wr 3 35).mono (by omega) (by simp)) (HBWR.out.alloc (by omega) _)
set_option maxRecDepth 4000 in
set_option maxHeartbeats 800000 in
theorem specPairOf_any (a : Option Addr) (cap : Nat) (p : List (List Int)) (n : Int) (a' : Option Addr) (cap' : Nat) (q : List (List Int)) (m : Int) (w : World) (B C B' C' : Nat) (h : RdII w B C a p) (hC : C ≤ w.heap.size) (hl : p.length ≤ maxLen) (h' : RdII w B' C' a' q) (hC' : C' ≤ w.heap.size) (hl' : q.length ≤ maxLen) :
    Calls Tryz.prog 27 #[.slice a p.length cap, .int .i64 n, .slice a' q.length cap', .int .i64 m] w (RetIIB 3 35 (pairS p n q m) (pairQ p n q m) w) := by
  have F := Lib.hid h
  have F' := Lib.hid h'
  have HLM := Lib.hid hl
  have HLM' := Lib.hid hl'
  clear h h' hl hl'
  cases h1 : nodeB p n
  · obtain ⟨e1, e2⟩ := pairs_no (p := p) (q := q) (n := n) (m := m) (by rw [h1]; rfl)
    have HE1 := Lib.hid e1
    have HE2 := Lib.hid e2
    have HN1 := Lib.hid h1
    clear h1 e1 e2
    go_enter Tryz.func27, Tryz.ntmps27
    go_wp2_with fail
    refine (specNodeOk_any a cap p n w _ _ F.out HLM.out).mono ?_
    rintro e w' ⟨rfl, rfl⟩
    rw [HN1.out]
    go_wp2_with fail
    go_ret2
    rw [HE1.out]
    exact retIIB_of (p := []) HE2.out.symm ((OwII_empty w 3 35).mono (Nat.le_refl _) (by simp)) (below_alloc _ _)
  · cases h2 : nodeB q m
    · obtain ⟨e1, e2⟩ := pairs_no (p := p) (q := q) (n := n) (m := m) (by rw [h1, h2]; rfl)
      have HE1 := Lib.hid e1
      have HE2 := Lib.hid e2
      have HN1 := Lib.hid h1
      have HN2 := Lib.hid h2
      clear h1 h2 e1 e2
      go_enter Tryz.func27, Tryz.ntmps27
      go_wp2_with fail
      refine (specNodeOk_any a cap p n w _ _ F.out HLM.out).mono ?_
      rintro e w' ⟨rfl, rfl⟩
      rw [HN1.out]
      go_wp2_with fail
      refine (specNodeOk_any a' cap' q m w _ _ F'.out HLM'.out).mono ?_
      rintro e w' ⟨rfl, rfl⟩
      rw [HN2.out]
      go_wp2_with fail
      go_ret2
      rw [HE1.out]
      exact retIIB_of (p := []) HE2.out.symm ((OwII_empty w 3 35).mono (Nat.le_refl _) (by simp)) (below_alloc _ _)
    · obtain ⟨i, rfl, hi, hp⟩ := nodeB_nat h1
      obtain ⟨j, rfl, hj, hq⟩ := nodeB_nat h2
      obtain ⟨e1, e2⟩ := pairs_yes h1 h2
      obtain ⟨e3, e4⟩ := pair_l6 (p := p) (q := q) (i := i) (j := j) hi
      have HE1 := Lib.hid (e1.trans e3.symm)
      have HE2 := Lib.hid (e2.trans e4.symm)
      have HN1 := Lib.hid h1
      have HN2 := Lib.hid h2
      have hpp := picB_sq hp
      have hqq := picB_sq hq
      have hp5 := hpp.2.2
      have hq5 := hqq.2.2
      have HSP := Lib.hid hpp.1
      have HSQ := Lib.hid hqq.1
      have HB2 := Lib.hid ((below_alloc w (.cells #[.int .i64 i] 3)).alloc (by simp) (.cells #[.int .i64 j] 3))
      have HL1 := Lib.hid ((OwI_one w 3 i).rd.below (below_alloc (w.alloc (.cells #[.int .i64 i] 3)) (.cells #[.int .i64 j] 3)) (by simp))
      have hl2 := (OwI_one (w.alloc (.cells #[.int .i64 i] 3)) 3 j).rd
      simp only [World.size_alloc] at hl2
      have HL2 := Lib.hid hl2
      have HPUT := Lib.hid (l6Put_any a cap p a' cap' q (some ⟨w.heap.size, 0, none⟩) 1 [(i : Int)] (some ⟨w.heap.size + 1, 0, none⟩) 1 [(j : Int)] ((w.alloc (.cells #[.int .i64 i] 3)).alloc (.cells #[.int .i64 j] 3)) _ _ _ _ _ _ _ _
        (F.out.below HB2.out hC) (by simp; omega) HSP.out hp5 (F'.out.below HB2.out hC') (by simp; omega) HSQ.out hq5 HL1.out (by simp) (fun k hk => by
          match k, hk with
          | 0, _ => exact ⟨i, rfl, hi⟩) (by simp) HL2.out (by simp) (fun k hk => by
          match k, hk with
          | 0, _ => exact ⟨j, rfl, hj⟩) (by simp))
      have HBL := Lib.hid (besL_len p q)
      clear h1 h2 hp hq e1 e2 e3 e4 hpp hqq hl2
      go_enter Tryz.func27, Tryz.ntmps27
      go_wp2_with fail
      refine (specNodeOk_any a cap p i w _ _ F.out HLM.out).mono ?_
      rintro e w' ⟨rfl, rfl⟩
      rw [HN1.out]
      go_wp2_with fail
      refine (specNodeOk_any a' cap' q j w _ _ F'.out HLM'.out).mono ?_
      rintro e w' ⟨rfl, rfl⟩
      rw [HN2.out]
      go_wp2_with fail
      refine HPUT.out.mono ?_
      rintro e w1 ⟨x, c, rfl, ho, hb⟩
      have hb2 := HB2.out.trans (hb.mono (by simp; omega))
      have HX := Lib.hid ho.rd
      have HB1 := Lib.hid hb2
      have hz1 : w.heap.size ≤ w1.heap.size := hb2.size
      clear ho hb hb2 HPUT
      go_wp2_with fail
      refine (l6Least_any x c _ w1 _ _ HX.out (Nat.le_refl _) (putL_sq _ _) (by rw [putL_len, HBL.out]; omega) (put_pos _ _)).mono ?_
      rintro e w2 ⟨y, d, rfl, ho, hb⟩
      have HO := Lib.hid ho
      have HB3 := Lib.hid (HB1.out.trans (hb.mono hz1))
      clear ho hb
      go_wp2_with fail
      go_ret2
      rw [HE1.out]
      exact retIIB_of HE2.out.symm (HO.out.mono hz1 (Nat.le_refl _)) HB3.out
end Go.Proofs.YtfjodcfbhpglhaaGreatDoor
namespace Go.Hyp
theorem inF_arr2 {P : List (List Int)} {i v : Nat} : inF (arrL P i P.length) v = (decide (v < P.length) && arr P i v) := by
  by_cases hv : v < P.length
  · rw [inF_arr hv, decide_eq_true hv]; rfl
  · rw [decide_eq_false hv, Bool.false_and]
    unfold inF
    refine decide_eq_false fun h => ?_
    obtain ⟨k, e, hk, _⟩ := arrL_mem.1 h
    omega
theorem tog_l6 {p q : List (List Int)} {i j : Nat} (hi : i < p.length) (hj : j < q.length) : putB (besL p q) (l6F p.length (arrL p i p.length) (arrL q j q.length)) = togB p i q j ∧ putR (besL p q) (l6F p.length (arrL p i p.length) (arrL q j q.length)) = togR p i q j :=
  putR_alike fun v hv => by
    rw [besL_len] at hv
    unfold l6F
    rw [inF_arr2, inF_arr2, Bool.eq_iff_iff, togF_iff hi hj hv]
    simp only [Bool.or_eq_true, Bool.and_eq_true, decide_eq_true_eq]
    constructor
    · rintro (h | ⟨h1, _, h3⟩)
      · exact .inl h
      · exact .inr ⟨h1, h3⟩
    · rintro (h | ⟨h1, h3⟩)
      · exact .inl h
      · exact .inr ⟨h1, by omega, h3⟩
theorem wo_l6 {p q : List (List Int)} {i j : Nat} (hs : Sq p) : leastQ (putL (besL p []) (l6F p.length (keepL p i q j) [])) 0 = woB p i q j ∧ leastN (putL (besL p []) (l6F p.length (keepL p i q j) [])) 0 = woR p i q j := by
  rw [bes_nil hs]
  have h := putR_alike (P := p) (m := l6F p.length (keepL p i q j) []) (m' := woF p i q j) fun v hv => by
    unfold l6F
    rw [inF_keep hv, inF_nil, Bool.and_false, Bool.or_false]
  exact h
theorem keep_take {p q : List (List Int)} {i j k : Nat} {x : Int} (hk : k < (arrL p i p.length).length) (hx : (arrL p i p.length)[k] = x) : ((arrL p i p.length).take (k + 1)).filter (fun x => !sameB p x.toNat q j) = ((arrL p i p.length).take k).filter (fun x => !sameB p x.toNat q j) ++ (if sameB p x.toNat q j = true then [] else [x]) := by
  rw [List.take_succ_eq_append_getElem hk, List.filter_append, hx]
  cases h : sameB p x.toNat q j <;> simp [h]
end Go.Hyp
namespace Go.Proofs.YtfjodcfbhpglhaaGreatDoor
open Go.RowKit Go.Hyp Go.Deep

set_option maxRecDepth 4000 in
set_option maxHeartbeats 800000 in
theorem specTogetherOf_any (a : Option Addr) (cap : Nat) (p : List (List Int)) (n : Int) (a' : Option Addr) (cap' : Nat) (q : List (List Int)) (m : Int) (w : World) (B C B' C' : Nat) (h : RdII w B C a p) (hC : C ≤ w.heap.size) (hl : p.length ≤ maxLen) (h' : RdII w B' C' a' q) (hC' : C' ≤ w.heap.size) (hl' : q.length ≤ maxLen) :
    Calls Tryz.prog 32 #[.slice a p.length cap, .int .i64 n, .slice a' q.length cap', .int .i64 m] w (RetIIB 3 35 (togS p n q m) (togQ p n q m) w) := by
  have F := Lib.hid h
  have F' := Lib.hid h'
  have HLM := Lib.hid hl
  have HLM' := Lib.hid hl'
  clear h h' hl hl'
  cases h1 : nodeB p n
  · obtain ⟨e1, e2⟩ := togs_no (p := p) (q := q) (n := n) (m := m) (by rw [h1]; rfl)
    have HE1 := Lib.hid e1
    have HE2 := Lib.hid e2
    have HN1 := Lib.hid h1
    clear h1 e1 e2
    go_enter Tryz.func32, Tryz.ntmps32
    go_wp2_with fail
    refine (specNodeOk_any a cap p n w _ _ F.out HLM.out).mono ?_
    rintro e w' ⟨rfl, rfl⟩
    rw [HN1.out]
    go_wp2_with fail
    go_ret2
    rw [HE1.out]
    exact retIIB_of (p := []) HE2.out.symm ((OwII_empty w 3 35).mono (Nat.le_refl _) (by simp)) (below_alloc _ _)
  · cases h2 : nodeB q m
    · obtain ⟨e1, e2⟩ := togs_no (p := p) (q := q) (n := n) (m := m) (by rw [h1, h2]; rfl)
      have HE1 := Lib.hid e1
      have HE2 := Lib.hid e2
      have HN1 := Lib.hid h1
      have HN2 := Lib.hid h2
      clear h1 h2 e1 e2
      go_enter Tryz.func32, Tryz.ntmps32
      go_wp2_with fail
      refine (specNodeOk_any a cap p n w _ _ F.out HLM.out).mono ?_
      rintro e w' ⟨rfl, rfl⟩
      rw [HN1.out]
      go_wp2_with fail
      refine (specNodeOk_any a' cap' q m w _ _ F'.out HLM'.out).mono ?_
      rintro e w' ⟨rfl, rfl⟩
      rw [HN2.out]
      go_wp2_with fail
      go_ret2
      rw [HE1.out]
      exact retIIB_of (p := []) HE2.out.symm ((OwII_empty w 3 35).mono (Nat.le_refl _) (by simp)) (below_alloc _ _)
    · obtain ⟨i, rfl, hi, hp⟩ := nodeB_nat h1
      obtain ⟨j, rfl, hj, hq⟩ := nodeB_nat h2
      obtain ⟨e1, e2⟩ := togs_yes h1 h2
      obtain ⟨e3, e4⟩ := tog_l6 (p := p) (q := q) hi hj
      have HE1 := Lib.hid (e1.trans e3.symm)
      have HE2 := Lib.hid (e2.trans e4.symm)
      have HN1 := Lib.hid h1
      have HN2 := Lib.hid h2
      have hpp := picB_sq hp
      have hqq := picB_sq hq
      have hp5 := hpp.2.2
      have hq5 := hqq.2.2
      have HSP := Lib.hid hpp.1
      have HSQ := Lib.hid hqq.1
      have HBL := Lib.hid (besL_len p q)
      have hl1 := arrL_le p i p.length
      have hl2 := arrL_le q j q.length
      have HM1 : Hid (∀ k (hk : k < (arrL p i p.length).length), ∃ v : Nat, (arrL p i p.length)[k] = v ∧ v < p.length) := Lib.hid fun k hk => by
        obtain ⟨v, e, hv, _⟩ := arrL_at hk
        exact ⟨v, e, hv⟩
      have HM2 : Hid (∀ k (hk : k < (arrL q j q.length).length), ∃ v : Nat, (arrL q j q.length)[k] = v ∧ v < q.length) := Lib.hid fun k hk => by
        obtain ⟨v, e, hv, _⟩ := arrL_at hk
        exact ⟨v, e, hv⟩
      clear h1 h2 hp hq e1 e2 e3 e4 hpp hqq
      go_enter Tryz.func32, Tryz.ntmps32
      go_wp2_with fail
      refine (specNodeOk_any a cap p i w _ _ F.out HLM.out).mono ?_
      rintro e w' ⟨rfl, rfl⟩
      rw [HN1.out]
      go_wp2_with fail
      refine (specNodeOk_any a' cap' q j w _ _ F'.out HLM'.out).mono ?_
      rintro e w' ⟨rfl, rfl⟩
      rw [HN2.out]
      go_wp2_with fail
      refine (l6Arrows_any a cap p i w _ _ F.out hC HSP.out hi (by omega)).mono ?_
      rintro e w1 ⟨y1, d1, rfl, ho, hb⟩
      have HO1 := Lib.hid ho.rd
      have HB1 := Lib.hid hb
      have hz1 : w.heap.size ≤ w1.heap.size := hb.size
      have F1 := Lib.hid (F.out.below hb hC)
      have F1' := Lib.hid (F'.out.below hb hC')
      clear ho hb
      go_wp2_with fail
      refine (l6Arrows_any a' cap' q j w1 _ _ F1'.out (by omega) HSQ.out hj (by omega)).mono ?_
      rintro e w2 ⟨y2, d2, rfl, ho, hb⟩
      have HO2 := Lib.hid ho.rd
      have HO1' := Lib.hid (HO1.out.below hb (Nat.le_refl _))
      have HB2 := Lib.hid (HB1.out.trans (hb.mono hz1))
      have hz2 : w1.heap.size ≤ w2.heap.size := hb.size
      have F2 := Lib.hid (F1.out.below hb (by omega))
      have F2' := Lib.hid (F1'.out.below hb (by omega))
      clear ho hb
      go_wp2_with fail
      refine (l6Put_any a cap p a' cap' q y1 d1 _ y2 d2 _ w2 _ _ _ _ _ _ _ _ F2.out (by omega) HSP.out hp5 F2'.out (by omega) HSQ.out hq5 HO1'.out (by omega) HM1.out (by omega) HO2.out (Nat.le_refl _) HM2.out (by omega)).mono ?_
      rintro e w3 ⟨x, c, rfl, ho, hb⟩
      have HX := Lib.hid ho.rd
      have HB3 := Lib.hid (HB2.out.trans (hb.mono (by omega)))
      have hz3 : w2.heap.size ≤ w3.heap.size := hb.size
      clear ho hb
      go_wp2_with fail
      refine (l6Least_any x c _ w3 _ _ HX.out (Nat.le_refl _) (putL_sq _ _) (by rw [putL_len, HBL.out]; omega) (put_pos _ _)).mono ?_
      rintro e w4 ⟨y, d, rfl, ho, hb⟩
      have HO := Lib.hid ho
      have HB4 := Lib.hid (HB3.out.trans (hb.mono (by omega)))
      clear ho hb
      go_wp2_with fail
      go_ret2
      rw [HE1.out]
      exact retIIB_of HE2.out.symm (HO.out.mono (by omega) (Nat.le_refl _)) HB4.out

set_option maxRecDepth 4000 in
set_option maxHeartbeats 1600000 in
theorem specWithoutSet_any (a : Option Addr) (cap : Nat) (p : List (List Int)) (n : Int) (a' : Option Addr) (cap' : Nat) (q : List (List Int)) (m : Int) (w : World) (B C B' C' : Nat) (h : RdII w B C a p) (hC : C ≤ w.heap.size) (hl : p.length ≤ maxLen) (h' : RdII w B' C' a' q) (hC' : C' ≤ w.heap.size) (hl' : q.length ≤ maxLen) :
    Calls Tryz.prog 10 #[.slice a p.length cap, .int .i64 n, .slice a' q.length cap', .int .i64 m] w (RetIIB 3 35 (woS p n q m) (woQ p n q m) w) := by
  have F := Lib.hid h
  have F' := Lib.hid h'
  have HLM := Lib.hid hl
  have HLM' := Lib.hid hl'
  clear h h' hl hl'
  cases h1 : nodeB p n
  · obtain ⟨e1, e2⟩ := wos_no (p := p) (q := q) (n := n) (m := m) (by rw [h1]; rfl)
    have HE1 := Lib.hid e1
    have HE2 := Lib.hid e2
    have HN1 := Lib.hid h1
    clear h1 e1 e2
    go_enter Tryz.func10, Tryz.ntmps10
    go_wp2_with fail
    refine (specNodeOk_any a cap p n w _ _ F.out HLM.out).mono ?_
    rintro e w' ⟨rfl, rfl⟩
    rw [HN1.out]
    go_wp2_with fail
    go_ret2
    rw [HE1.out]
    exact retIIB_of (p := []) HE2.out.symm ((OwII_empty w 3 35).mono (Nat.le_refl _) (by simp)) (below_alloc _ _)
  · cases h2 : nodeB q m
    · obtain ⟨e1, e2⟩ := wos_no (p := p) (q := q) (n := n) (m := m) (by rw [h1, h2]; rfl)
      have HE1 := Lib.hid e1
      have HE2 := Lib.hid e2
      have HN1 := Lib.hid h1
      have HN2 := Lib.hid h2
      clear h1 h2 e1 e2
      go_enter Tryz.func10, Tryz.ntmps10
      go_wp2_with fail
      refine (specNodeOk_any a cap p n w _ _ F.out HLM.out).mono ?_
      rintro e w' ⟨rfl, rfl⟩
      rw [HN1.out]
      go_wp2_with fail
      refine (specNodeOk_any a' cap' q m w _ _ F'.out HLM'.out).mono ?_
      rintro e w' ⟨rfl, rfl⟩
      rw [HN2.out]
      go_wp2_with fail
      go_ret2
      rw [HE1.out]
      exact retIIB_of (p := []) HE2.out.symm ((OwII_empty w 3 35).mono (Nat.le_refl _) (by simp)) (below_alloc _ _)
    · obtain ⟨i, rfl, hi, hp⟩ := nodeB_nat h1
      obtain ⟨j, rfl, hj, hq⟩ := nodeB_nat h2
      obtain ⟨e1, e2⟩ := wos_yes h1 h2
      have hpp := picB_sq hp
      obtain ⟨e3, e4⟩ := wo_l6 (p := p) (q := q) (i := i) (j := j) hpp.1
      have HE1 := Lib.hid (e1.trans e3.symm)
      have HE2 := Lib.hid (e2.trans e4.symm)
      have HN1 := Lib.hid h1
      have HN2 := Lib.hid h2
      have hp5 := hpp.2.2
      have HSP := Lib.hid hpp.1
      have hl1 := arrL_le p i p.length
      have HSB : Hid (∀ v : Nat, v < p.length → sameSetB p v q j = sameB p v q j) := Lib.hid fun v hv => by
        rw [Bool.eq_iff_iff, sameSetB_iff (nodeB_of hp hv) h2, sameB_iff hv hj]
      clear h1 h2 hp hq e1 e2 e3 e4 hpp
      go_enter Tryz.func10, Tryz.ntmps10
      go_wp2_with fail
      refine (specNodeOk_any a cap p i w _ _ F.out HLM.out).mono ?_
      rintro e w' ⟨rfl, rfl⟩
      rw [HN1.out]
      go_wp2_with fail
      refine (specNodeOk_any a' cap' q j w _ _ F'.out HLM'.out).mono ?_
      rintro e w' ⟨rfl, rfl⟩
      rw [HN2.out]
      have HK0 := Lib.hid (OwI_empty w 3)
      have HBA := Lib.hid (below_alloc w (.cells #[] 3))
      have FA := Lib.hid (F.out.below HBA.out hC)
      go_wp2_with fail
      refine (l6Arrows_any a cap p i _ _ _ FA.out (by simp; omega) HSP.out hi (by omega)).mono ?_
      rintro e w1 ⟨y1, d1, rfl, ho, hb⟩
      obtain ⟨L, hL⟩ : ∃ L, L = arrL p i p.length := ⟨_, rfl⟩
      rw [← hL] at ho hl1 ⊢
      have HLE := Lib.hid hL
      have HO1 := Lib.hid ho.rd
      have hb' := HBA.out.trans (hb.mono (by simp))
      have HB1 := Lib.hid hb'
      have hz1 : w.heap.size + 1 ≤ w1.heap.size := by have := hb.size; simpa using this
      have HK1 := Lib.hid ((HK0.out.below hb (by simp)).mono (Nat.le_refl _) (show w.heap.size + 1 ≤ w1.heap.size from hz1))
      have hsz : (w.alloc (.cells #[] 3)).heap.size = w.heap.size + 1 := by simp
      have HLR : Hid (RdI w1 (w.heap.size + 1) w1.heap.size y1 L) := Lib.hid (by have h9 := HO1.out; rw [hsz] at h9; exact h9)
      clear ho hb hb' hL HK0 HBA FA hsz
      go_wp2_with fail
      go_loopw [10, 12] (fun kv iv wr => ∃ (k : Nat) (x : Option Addr) (c : Nat), k ≤ L.length ∧ iv = .int .i64 k ∧ kv = .slice x ((L.take k).filter fun v => !sameB p v.toNat q j).length c ∧ OwI wr 3 w.heap.size wr.heap.size x c ((L.take k).filter fun v => !sameB p v.toNat q j) ∧ Chg (fun b => b = w.heap.size) w1 wr ∧ ∀ b, blockOf x = some b → b = w.heap.size ∨ w1.heap.size ≤ b) (fun _ iv _ => L.length - (intOf iv).toNat)
      case atStart => exact ⟨0, _, 0, Nat.zero_le _, rfl, rfl, HK1.out, Chg.refl _ _, fun b hb => .inl (by injection hb with hb; exact hb.symm)⟩
      case round =>
        obtain ⟨k, x, c, hk, rfl, rfl, ho, hc, hx⟩ := hrel
        have hkl : ((L.take k).filter fun v => !sameB p v.toNat q j).length ≤ 5 := Nat.le_trans (List.length_filter_le _ _) (by rw [List.length_take]; omega)
        obtain ⟨K, hK⟩ : ∃ K, K = (L.take k).filter fun v => !sameB p v.toNat q j := ⟨_, rfl⟩
        rw [← hK] at ho hkl ⊢
        have HKE := Lib.hid hK
        have HKO := Lib.hid ho
        have HC := Lib.hid hc
        have HX := Lib.hid hx
        have hzr : w1.heap.size ≤ wr.heap.size := hc.size
        have HBR := Lib.hid (HB1.out.trans (hc.below (D := w.heap.size) (fun b hb => by omega) (by omega)))
        have HLK : Hid (RdI wr (w.heap.size + 1) w1.heap.size y1 L) := Lib.hid (HLR.out.agr (hc.agr (Nat.le_refl _) (fun b h1 h2 h3 => by omega)))
        clear ho hc hx hK
        by_cases hlt : k < L.length
        · obtain ⟨v, hv, hvp⟩ : ∃ v : Nat, L[k] = (v : Int) ∧ v < p.length := by
            have h9 := HLE.out
            subst h9
            obtain ⟨v, e, hv, _⟩ := arrL_at hlt
            exact ⟨v, e, hv⟩
          obtain ⟨b, off, rfl, _, hb2, hd⟩ := HLK.out.at k hlt
          rw [hv] at hd
          have hcall := specSameSet_any a cap p v a' cap' q j wr B C B' C' (F.out.below HBR.out hC) (by omega) HLM.out (F'.out.below HBR.out hC') (by omega) HLM'.out
          rw [HSB.out v hvp] at hcall
          have HKT := Lib.hid (show ((L.take (k + 1)).filter fun v => !sameB p v.toNat q j) = K ++ (if sameB p v q j = true then [] else [(v : Int)]) by
            have h9 := HLE.out
            have h8 := HKE.out
            subst h9
            rw [keep_take hlt hv, ← h8]
            rfl)
          clear hv
          cases hq : sameB p v q j
          · rw [hq] at hcall
            have HCALL := Lib.hid hcall
            have HK2 : Hid (((L.take (k + 1)).filter fun v => !sameB p v.toNat q j) = K ++ [(v : Int)]) := Lib.hid (by rw [HKT.out, hq]; rfl)
            clear hcall hq HKT
            go_wp2_with fail
            refine HCALL.out.mono ?_
            rintro e w2 ⟨rfl, hb⟩
            have HKO2 := Lib.hid (HKO.out.below hb (Nat.le_refl _))
            have HC2 := Lib.hid (HC.out.then_below hb)
            have hz2 : wr.heap.size ≤ w2.heap.size := hb.size
            have hd2 := ((bcell hb).1 b (off + k) (by omega)).trans hd
            clear hb
            go_wp2_with (at_builtin; go_loud (refine wpList_appI Tryz.underlying35 Tryz.infoInt _ rfl _ _ rfl w.heap.size wr.heap.size x c K rfl (HKO2.out.agr ((Agr.refl _ _ _).alloc hz2 _)) (by simp; omega) ⟨w2.heap.size, 0, none⟩ v rfl (new_cellE _ _ _ rfl) (by omega) ?_); intro g c1 w3 hown hgrow hat hg)
            have HO3 := Lib.hid hown
            have HC3 := Lib.hid ((HC2.out.alloc _).grown hgrow (fun b hb => HX.out b hb))
            have HX3 : Hid (∀ b, blockOf (some (⟨g, 0, none⟩ : Addr)) = some b → b = w.heap.size ∨ w1.heap.size ≤ b) := Lib.hid (fun b hb => by
              injection hb with hb
              subst hb
              rcases hat with h | h
              · exact HX.out _ h
              · exact .inr (by rw [h]; simp; omega))
            clear hown hgrow hat
            go_wp2_with fail
            go_roundw
            case rel => exact ⟨k + 1, some ⟨g, 0, none⟩, c1, by omega, by go_num, by rw [HK2.out]; simp, by rw [HK2.out]; exact HO3.out, HC3.out, HX3.out⟩
            case measure => simp [intOf]; omega
          · rw [hq] at hcall
            have HCALL := Lib.hid hcall
            have HK2 : Hid (((L.take (k + 1)).filter fun v => !sameB p v.toNat q j) = K) := Lib.hid (by rw [HKT.out, hq]; simp)
            clear hcall hq HKT
            go_wp2_with fail
            refine HCALL.out.mono ?_
            rintro e w2 ⟨rfl, hb⟩
            have HKO2 := Lib.hid (HKO.out.below hb (Nat.le_refl _))
            have HC2 := Lib.hid (HC.out.then_below hb)
            have hz2 : wr.heap.size ≤ w2.heap.size := hb.size
            clear hb
            go_wp2_with fail
            go_roundw
            case rel => exact ⟨k + 1, x, c, by omega, by go_num, by rw [HK2.out], by rw [HK2.out]; exact HKO2.out.mono (Nat.le_refl _) hz2, HC2.out, HX.out⟩
            case measure => simp [intOf]; omega
        · obtain rfl : k = L.length := by omega
          have HKL : Hid (K = keepL p i q j) := Lib.hid (by
            have h9 := HLE.out
            have h8 := HKE.out
            subst h9
            rw [h8, List.take_of_length_le (Nat.le_refl _)]
            rfl)
          have hkq := HKL.out
          clear HX HC HKE HKL
          subst hkq
          have hmem : ∀ k (hk : k < (keepL p i q j).length), ∃ v : Nat, (keepL p i q j)[k] = v ∧ v < p.length := fun k hk => by
            have h1 := (List.mem_filter.1 (List.getElem_mem hk)).1
            obtain ⟨v, e, hv, _⟩ := arrL_mem.1 h1
            exact ⟨v, e, hv⟩
          have hb1 := below_alloc wr (.cells #[] 35)
          have hb2 := below_alloc (wr.alloc (.cells #[] 35)) (.cells #[] 3)
          have hz1' : (wr.alloc (.cells #[] 35)).heap.size = wr.heap.size + 1 := by simp
          have HBW := Lib.hid (hb1.trans (hb2.mono (by omega)))
          have HE0 := Lib.hid (((OwII_empty wr 3 35).below hb2 (by omega)).rd)
          have HN0 : Hid (RdI ((wr.alloc (.cells #[] 35)).alloc (.cells #[] 3)) (wr.heap.size + 1) (wr.heap.size + 2) (some ⟨wr.heap.size + 1, 0, none⟩) []) := Lib.hid (by
            have h9 := (OwI_empty (wr.alloc (.cells #[] 35)) 3).rd
            rw [hz1'] at h9
            exact h9)
          have HPUT := Lib.hid (l6Put_any a cap p (some ⟨wr.heap.size, 0, none⟩) 0 [] x c (keepL p i q j) (some ⟨wr.heap.size + 1, 0, none⟩) 0 [] ((wr.alloc (.cells #[] 35)).alloc (.cells #[] 3)) B C wr.heap.size (wr.heap.size + 1) w.heap.size wr.heap.size (wr.heap.size + 1) (wr.heap.size + 2) (F.out.below (HBR.out.trans (HBW.out.mono (by omega))) hC) (by simp; omega) HSP.out hp5 HE0.out (by simp) rfl (by simp) (HKO.out.rd.below HBW.out (Nat.le_refl _)) (by simp; try omega) hmem (by omega) HN0.out (by simp) (fun k hk => absurd hk (Nat.not_lt_zero _)) (by simp))
          clear hb1 hb2 hmem hz1'
          go_wp2_with fail
          refine HPUT.out.mono ?_
          rintro e w3 ⟨x3, c3, rfl, ho, hb⟩
          have HX3 := Lib.hid ho.rd
          have HB3 := Lib.hid (HBR.out.trans ((HBW.out.trans (hb.mono (by simp; omega))).mono (by omega)))
          have hz3 := HB3.out.size
          clear ho hb
          go_wp2_with fail
          refine (l6Least_any x3 c3 _ w3 _ _ HX3.out (Nat.le_refl _) (putL_sq _ _) (by rw [putL_len, besL_len]; simp; omega) (put_pos _ _)).mono ?_
          rintro e w4 ⟨y, d, rfl, ho, hb⟩
          have HO := Lib.hid ho
          have HB4 := Lib.hid (HB3.out.trans (hb.mono hz3))
          clear ho hb
          go_wp2_with fail
          go_ret2
          rw [HE1.out]
          exact retIIB_of HE2.out.symm (HO.out.mono hz3 (Nat.le_refl _)) HB4.out
end Go.Proofs.YtfjodcfbhpglhaaGreatDoor
