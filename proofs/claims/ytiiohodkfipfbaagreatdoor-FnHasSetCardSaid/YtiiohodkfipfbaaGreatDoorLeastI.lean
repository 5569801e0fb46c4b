/- impl.leastOf, LeastOf, isLeast, LeastOk, walked. -/
import Derived.Test.YtiiohodkfipfbaaGreatDoorPlace
import Derived.Test.YtiiohodkfipfbaaGreatDoorJoinI
import Derived.Test.YtiiohodkfipfbaaGreatDoorLawP
import Derived.Laws.EntriesVeiled
namespace Go.Hyp
/-- What leastOf answers: the least picture, if it has not too many nodes. -/
def leastQ (p : List (List Int)) (i : Nat) : Bool := decide ((joinedL p i).length ≤ 5)
def leastN (p : List (List Int)) (i : Nat) : List (List Int) := if leastQ p i = true then leastC p i else []
theorem leastN_yes {p : List (List Int)} {i : Nat} (h : leastQ p i = true) : leastN p i = leastC p i := by unfold leastN; rw [h]; rfl
theorem leastN_no {p : List (List Int)} {i : Nat} (h : leastQ p i = false) : leastN p i = [] := by unfold leastN; rw [h]; rfl
theorem putR_N (P : List (List Int)) (m : Nat → Bool) : putR P m = leastN (putL P m) 0 := rfl
theorem putB_Q (P : List (List Int)) (m : Nat → Bool) : putB P m = leastQ (putL P m) 0 := rfl
theorem place_is {p : List (List Int)} {i : Nat} (hi : i < p.length) (h5 : (joinedL p i).length ≤ 5) : (comp (joinedL p i).length ((joinedL p i).length - 1) [0]).foldl (better (joinM p (joinedL p i))) (joinM p (joinedL p i)) = leastC p i := by
  have h1 := joined_pos hi
  have h := leastC_eq hi (by omega) (joinedL_fit hi) (placeL_least (joinM_sq p (joinedL p i)) h1)
  unfold placeL at h
  rwa [joinM_len] at h
end Go.Hyp
namespace Go.Proofs.YtiiohodkfipfbaaGreatDoor
open Go.RowKit Go.Hyp Go.Deep

set_option maxRecDepth 4000 in
set_option maxHeartbeats 1200000 in
theorem leastOf_any (a : Option Addr) (cap : Nat) (p : List (List Int)) (i : Nat) (w : World) (B C : Nat) (h : RdII w B C a p) (hC : C ≤ w.heap.size) (hs : Sq p) (hi : i < p.length) (hl : p.length ≤ 1024) :
    Calls Tryz.prog 23 #[.slice a p.length cap, .int .i64 i] w (RetIIB 3 37 (leastN p i) (leastQ p i) w) := by
  have F := Lib.hid h
  have HS := Lib.hid hs
  have HLL := Lib.hid (joinM_len p (joinedL p i))
  have hpos := (joinedL_fit hi).pos
  have hle := (joinedL_fit hi).len
  clear h hs
  obtain ⟨X, hX⟩ : ∃ X, X = joinM p (joinedL p i) := ⟨_, rfl⟩
  have hXl : X.length = (joinedL p i).length := by rw [hX, joinM_len]
  have hXs : Sq X := by rw [hX]; exact joinM_sq _ _
  have HXS := Lib.hid hXs
  have HJ := Lib.hid (joinedOf_any a cap p i w B C F.out hC HS.out hi hl)
  rw [← hX] at HJ
  clear hXs
  cases hq : leastQ p i
  · have HN := Lib.hid (leastN_no hq)
    have h5 : ¬ (joinedL p i).length ≤ 5 := of_decide_eq_false hq
    have h5i : (5 : Int) < (X.length : Int) := by omega
    clear hq hXl hX
    go_enter Tryz.func23, Tryz.ntmps23
    go_wp2_with fail
    refine HJ.out.mono ?_
    rintro e w1 ⟨x, c, rfl, ho, hb⟩
    have HB := Lib.hid hb
    clear ho hb
    go_wp2_with fail
    go_ret2
    rw [HN.out]
    exact ⟨none, 0, rfl, OwII_nil _ _ _ _ _, HB.out.alloc HB.out.size _⟩
  · have HN := Lib.hid (leastN_yes hq)
    have h5 : (joinedL p i).length ≤ 5 := of_decide_eq_true hq
    have hX5 : X.length ≤ 5 := by omega
    have hX1 : 1 ≤ X.length := by omega
    have h5i : (X.length : Int) ≤ 5 := by omega
    have hpl := place_is hi h5
    rw [← hX, ← hXl] at hpl
    have HPL := Lib.hid hpl
    have HXE := Lib.hid hXl
    clear hq hXl hX hpl
    go_enter Tryz.func23, Tryz.ntmps23
    go_wp2_with fail
    refine HJ.out.mono ?_
    rintro e w1 ⟨x, c, rfl, ho, hb⟩
    have HB := Lib.hid hb
    have HO := Lib.hid ho
    have hz1 : w.heap.size ≤ w1.heap.size := hb.size
    clear ho hb
    go_upto_region 7 with (fail)
    obtain ⟨W, hW⟩ : ∃ W, W = ((((w1.alloc (.cells #[.slice x X.length c] 23)).alloc (.cells #[.slice x X.length c] 23)).alloc (.cells #[.int .i64 0] 3)).alloc (.cells #[.slice (some ⟨w1.heap.size + 1 + 1, 0, none⟩) 1 1] 37)).alloc (.cells #[.nilFunc] 1) := ⟨_, rfl⟩
    rw [← hW]
    have hJ1 : W.heap[w1.heap.size]? = some (.cells #[.slice x X.length c] 23 (0, 0)) := by rw [hW]; exact blk_old (blk_old (blk_old (blk_old (blk_new rfl))))
    have hB1 : W.heap[w1.heap.size + 1]? = some (.cells #[.slice x X.length c] 23 (0, 0)) := by rw [hW]; exact blk_old (blk_old (blk_old (blk_new (by simp))))
    have hO1 : W.heap[w1.heap.size + 1 + 1 + 1]? = some (.cells #[.slice (some ⟨w1.heap.size + 1 + 1, 0, none⟩) 1 1] 37 (0, 0)) := by rw [hW]; exact blk_old (blk_new (by simp))
    have hF1 : W.heap[w1.heap.size + 1 + 1 + 1 + 1]? = some (.cells #[.nilFunc] 1 (0, 0)) := by rw [hW]; exact blk_new (by simp)
    have hBW : Below w1.heap.size w1 W := by rw [hW]; exact ((((below_alloc w1 _).alloc (by simp) _).alloc (by simp; omega) _).alloc (by simp; omega) _).alloc (by simp; omega) _
    have hzW : W.heap.size = w1.heap.size + 5 := by rw [hW]; simp
    have hOW : OwI W 3 (w1.heap.size + 1 + 1) (w1.heap.size + 1 + 1 + 1) (some ⟨w1.heap.size + 1 + 1, 0, none⟩) 1 [0] := by
      have h := OwI_one ((w1.alloc (.cells #[.slice x X.length c] 23)).alloc (.cells #[.slice x X.length c] 23)) 3 0
      simp only [World.size_alloc] at h
      rw [hW]
      exact (h.below (below_alloc _ _) (by simp)).below (below_alloc _ _) (by simp)
    have hXW : OwII W 3 37 w.heap.size w1.heap.size x c X := HO.out.below hBW (Nat.le_refl _)
    obtain ⟨jb, hjb⟩ : ∃ n, n = w1.heap.size := ⟨_, rfl⟩
    rw [← hjb] at hJ1 hB1 hO1 hF1 hBW hOW hXW hzW hz1 ⊢
    obtain ⟨bb, hbb⟩ : ∃ n, n = jb + 1 := ⟨_, rfl⟩
    rw [← hbb] at hB1 hO1 hF1 hOW ⊢
    obtain ⟨gb, hgb⟩ : ∃ n, n = bb + 1 := ⟨_, rfl⟩
    rw [← hgb] at hO1 hF1 hOW ⊢
    obtain ⟨ob, hob⟩ : ∃ n, n = gb + 1 := ⟨_, rfl⟩
    rw [← hob] at hO1 hF1 hOW ⊢
    obtain ⟨fb, hfb⟩ : ∃ n, n = ob + 1 := ⟨_, rfl⟩
    rw [← hfb] at hF1 ⊢
    have hi1 : jb < bb := by omega
    have hi2 : bb < gb := by omega
    have hi3 : gb < ob := by omega
    have hi4 : ob < fb := by omega
    have hi5 : fb < W.heap.size := by omega
    have HJB := Lib.hid hjb
    obtain ⟨f1, f2⟩ := blk1 hF1
    have hst : PlaceSt 3 37 23 1 37 jb bb (ob) (fb) w.heap.size jb X [0] X (W.setCell ⟨fb, 0, none⟩ (.func (.func 37) #[] #[.pointer (some ⟨ob, 0, none⟩), .pointer (some ⟨jb, 0, none⟩), .pointer (some ⟨bb, 0, none⟩), .pointer (some ⟨fb, 0, none⟩)])) := by
      refine ⟨x, c, x, c, gb, 1, w.heap.size, jb, blk_set_other _ hJ1 (by omega), blk_set_other _ hB1 (by omega), blk_set_other _ hO1 (by omega), blk_set _ (i := 0) hF1, hXW.rd.agr ((Agr.refl _ _ _).set (.inr (by omega)) _), Nat.le_refl _, hXW.agr ((Agr.refl _ _ _).set (.inr (by omega)) _), by simp; omega, .inl (Nat.le_refl _), ?_, by omega, by omega, .inr (by omega), by omega, by omega, by omega, Nat.le_refl _⟩
      exact (hOW.setOther (by omega)).mono (by omega) (by simp; omega)
    have HP := Lib.hid (place_any jb bb (ob) (fb) w.heap.size jb X HXS.out hX1 hX5 hz1 (X.length - 1) [0] X _ (PartO.one hX1) (by simp; omega) (by simp) rfl HXS.out rfl hst)
    rw [HPL.out] at HP
    have HBW := Lib.hid hBW
    clear hW hJ1 hB1 hO1 hF1 hBW hOW hXW hst hzW hjb hbb hgb hob hfb
    go_wp2_with fail
    refine HP.out.mono ?_
    rintro e w2 ⟨rfl, hst, hb2⟩
    obtain ⟨ja, jc, ba, bc, g, oc, Bb, Cb, hj, hb, ho, hf, hx, hcx, hbr, hcb, hsep, _, _, _, _, _, _, _, hbx⟩ := hst
    obtain ⟨q1, _⟩ := blk1 hb
    have HR := Lib.hid hbr
    have HL := Lib.hid ((leastC_len hi).trans HXE.out.symm)
    have hbb2 : bb < w2.heap.size := blk_lt hb
    have HB2 : Hid (Below w.heap.size w w2) := Lib.hid (by
      have h1 := HB.out.trans (HBW.out.mono hz1)
      have h2 := (h1.setCell (p := ⟨fb, 0, none⟩) (show w.heap.size ≤ fb by omega) (.func (.func 37) #[] #[.pointer (some ⟨ob, 0, none⟩), .pointer (some ⟨jb, 0, none⟩), .pointer (some ⟨bb, 0, none⟩), .pointer (some ⟨fb, 0, none⟩)]))
      exact h2.trans (hb2.mono hz1))
    clear hj hb ho hf hx hbr hb2
    go_wp2_with fail
    go_ret2
    rw [HN.out, ← HL.out]
    exact ⟨ba, bc, rfl, HR.out.mono hbx hcb, HB2.out⟩

set_option maxRecDepth 4000 in
set_option maxHeartbeats 800000 in
theorem implLeastOf_any (a : Option Addr) (cap : Nat) (p : List (List Int)) (n : Int) (w : World) (B C : Nat) (h : RdII w B C a p) (hC : C ≤ w.heap.size) (hl : p.length ≤ maxLen) :
    Calls Tryz.prog 11 #[.slice a p.length cap, .int .i64 n] w (RetII 3 37 (leastR p n) w) := by
  have F := Lib.hid h
  clear h
  go_enter Tryz.func11, Tryz.ntmps11
  go_wp2_with fail
  refine (hasNode_any a cap p n w _ _ F.out hl).mono ?_
  rintro e w' ⟨rfl, rfl⟩
  cases hb : nodeB p n
  · go_wp2_with fail
    go_ret
    rw [leastR_no hb]
    exact ⟨none, 0, rfl, OwII_nil _ _ _ _ _, Below.refl _ _⟩
  · obtain ⟨i, rfl, hi, hp⟩ := nodeB_nat hb
    have h5 := (picB_sq hp).2.2
    have hq : leastQ p i = true := decide_eq_true (by have := (joinedL_fit hi).len; omega)
    have hd := leastOf_any a cap p i w B C F.out hC (picB_sq hp).1 hi (by omega)
    rw [leastN_yes hq, hq, ← leastR_yes hb] at hd
    have HD := Lib.hid hd
    clear hb hp hq hd
    go_wp2_with fail
    refine HD.out.mono ?_
    rintro e w1 ⟨a1, c1, rfl, ho, hbl⟩
    have HO := Lib.hid ho
    have HBL := Lib.hid hbl
    clear ho hbl
    go_wp2_with fail
    go_ret
    exact ⟨a1, c1, rfl, HO.out, HBL.out⟩

end Go.Proofs.YtiiohodkfipfbaaGreatDoor
