/- Joined pictures, as the program finds them: impl.joinedOf, impl.JoinedOf. -/
import Derived.Deep.RegionLaw
import Derived.Deep.RegionHeld3
import Derived.StillTailTactics
import Derived.Test.YtfjodcfbhpglhaaGreatDoorM15
import Derived.Test.YtfjodcfbhpglhaaGreatDoorM3
namespace Go.Hyp
open Go.RowKit Go.Deep
/-- Lists that begin with nodes of one kind go on alike. -/
theorem jfold_kinds {p : List (List Int)} {i i0 : Nat} (h : kind p i0 = kind p i) : ∀ R, (jfold p i0 R).map (kind p) = (jfold p i R).map (kind p) := by
  intro R
  induction R using rev_ind2 with
  | nil => simp [jfold, h]
  | snoc R v ih =>
    rw [jfold_snoc, jfold_snoc]
    have e : ((jfold p i0 R).any fun u => kind p u == kind p v) = ((jfold p i R).any fun u => kind p u == kind p v) := by
      have h1 : ∀ l : List Nat, (l.any fun u => kind p u == kind p v) = ((l.map (kind p)).any fun x => x == kind p v) := fun l => by rw [List.any_map]; rfl
      rw [h1, h1, ih]
    unfold jstep
    rw [e]
    split
    · exact ih
    · rw [List.map_append, List.map_append, ih]
theorem joinM_kinds {p : List (List Int)} {l m : List Nat} (h : l.map (kind p) = m.map (kind p)) (hl : ∀ a, a < l.length → l.getD a 0 < p.length) (hm : ∀ a, a < m.length → m.getD a 0 < p.length) : joinM p l = joinM p m := by
  have hlen : l.length = m.length := by have := congrArg List.length h; simpa using this
  have hk : ∀ a, a < l.length → kind p (l.getD a 0) = kind p (m.getD a 0) := fun a ha => by
    have := congrArg (fun L => L[a]?) h
    simp [ha, show a < m.length by omega] at this
    rw [getD_nat ha, getD_nat (by omega)]
    exact this
  unfold joinM
  rw [← hlen]
  exact mat_congr fun a b ha hb => arrK_kind (hl a ha) (hm a (by omega)) (hk a ha) (hk b hb)
/-- The least node of those that are reached that is of a kind. -/
def leastAt (p : List (List Int)) (R : List Nat) (K : Nat) : Option Nat := R.find? fun v => kind p v == K
/-- The kinds of some nodes, as numbers. -/
def kdL (p : List (List Int)) (l : List Nat) : List Int := l.map fun v => ((kind p v : Nat) : Int)
theorem kdL_len (p : List (List Int)) (l : List Nat) : (kdL p l).length = l.length := by simp [kdL]
theorem kdL_snoc (p : List (List Int)) (l : List Nat) (v : Nat) : kdL p (l ++ [v]) = kdL p l ++ [((kind p v : Nat) : Int)] := by simp [kdL]
theorem kdL_mem {p : List (List Int)} {l : List Nat} {v : Nat} : decide (((kind p v : Nat) : Int) ∈ kdL p l) = l.any fun u => kind p u == kind p v := by
  rw [Bool.eq_iff_iff, decide_eq_true_eq, List.any_eq_true]
  unfold kdL
  rw [List.mem_map]
  constructor
  · rintro ⟨u, hu, e⟩
    exact ⟨u, hu, beq_iff_eq.2 (by omega)⟩
  · rintro ⟨u, hu, e⟩
    exact ⟨u, hu, by rw [beq_iff_eq] at e; rw [e]⟩
/-- The row of u, of which the arrows to the first t members are in place. -/
def rowT' (p : List (List Int)) (l : List Nat) (u t x : Nat) : Bool := ((arrL p u p.length).take t).any fun w => kind p w.toNat == kind p (l.getD x 0)
theorem rowT'_all {p : List (List Int)} {l : List Nat} {u x : Nat} : rowT' p l u (arrL p u p.length).length x = arrK p u (l.getD x 0) := by
  unfold rowT'
  rw [List.take_of_length_le (Nat.le_refl _), Bool.eq_iff_iff, List.any_eq_true, arrK_iff]
  constructor
  · rintro ⟨w, hw, e⟩
    obtain ⟨j, rfl, h1, h2⟩ := arrL_mem.1 hw
    exact ⟨j, h1, h2, by simpa using e⟩
  · rintro ⟨j, h1, h2, h3⟩
    exact ⟨j, arrL_mem.2 ⟨j, rfl, h1, h2⟩, by simpa using h3⟩
theorem rowT'_succ {p : List (List Int)} {l : List Nat} {u t x : Nat} (ht : t < (arrL p u p.length).length) : rowT' p l u (t + 1) x = (rowT' p l u t x || (kind p ((arrL p u p.length)[t]).toNat == kind p (l.getD x 0))) := by
  unfold rowT'
  rw [List.take_succ_eq_append_getElem ht, List.any_append]
  simp
/-- The place of a kind in a list of nodes of different kinds. -/
theorem kdL_idx {p : List (List Int)} {i : Nat} {l : List Nat} (h : Fit p i l) {w m : Nat} (hm : m < l.length) (e : kind p (l.getD m 0) = kind p w) : idxI (kdL p l) ((kind p w : Nat) : Int) = (m : Int) := by
  refine idxI_of (by rw [kdL_len]; exact hm) ?_ fun j hj => ?_
  · simp only [kdL, List.getElem_map]
    rw [getD_nat hm] at e
    rw [e]
  · simp only [kdL, List.getElem_map]
    have := h.apart j m hj hm
    rw [getD_nat (by omega), e] at this
    omega
end Go.Hyp
namespace Go.Proofs.YtfjodcfbhpglhaaGreatDoor
open Go.RowKit Go.Hyp Go.Deep

set_option maxRecDepth 4000 in
set_option maxHeartbeats 800000 in
theorem leastNode_any (ar ak : Option Addr) (cr ck : Nat) (p : List (List Int)) (R : List Nat) (K rb kb : Nat) (w : World) (B C B' C' : Nat) (hR : RdI w B C ar (natL R)) (hk : RdI w B' C' ak (kindsL p p.length)) (hRp : ∀ k, k < R.length → R.getD k 0 < p.length) (hl : R.length ≤ 1024) (hpl : p.length ≤ 1024)
    (h1 : w.cell? ⟨rb, 0, none⟩ = some (.slice ar R.length cr)) (h2 : w.cell? ⟨kb, 0, none⟩ = some (.slice ak p.length ck)) (v : Nat) (hv : leastAt p R K = some v) :
    Calls Tryz.prog 111 (#[.int .i64 K] ++ #[.pointer (some ⟨rb, 0, none⟩), .pointer (some ⟨kb, 0, none⟩)]) w fun e w' => e = .returned (.int .i64 v) ∧ w = w' := by
  have F := Lib.hid hR
  have FK := Lib.hid hk
  have HRP := Lib.hid hRp
  have HV : Hid (∃ t, t < R.length ∧ R.getD t 0 = v ∧ kind p v = K ∧ ∀ j, j < t → kind p (R.getD j 0) ≠ K) := Lib.hid (by
    unfold leastAt at hv
    obtain ⟨e1, us, bs, e2, e3⟩ := List.find?_eq_some_iff_append.1 hv
    subst e2
    refine ⟨us.length, by simp, by simp [List.getD], by simpa using e1, fun j hj e => ?_⟩
    have h4 := e3 us[j] (List.getElem_mem hj)
    have e5 : (us ++ v :: bs).getD j 0 = us[j] := by simp [List.getD, List.getElem?_append_left hj, hj]
    rw [e5] at e
    rw [e] at h4
    simp at h4)
  obtain ⟨t, ht, het, hek, hno⟩ := HV.out
  have HT := Lib.hid het
  have HK := Lib.hid hek
  have HNO := Lib.hid hno
  clear hR hk hRp hv HV het hek hno
  go_enter Tryz.func111, Tryz.ntmps111
  go_wp2_with fail
  go_loop [4, 9] (fun r i => ∃ k : Nat, k ≤ t ∧ i = .int .i64 k ∧ r = .int .i64 0) (fun _ i => R.length - (intOf i).toNat)
  case atStart => exact ⟨0, Nat.zero_le _, rfl, rfl⟩
  case round =>
    obtain ⟨k, hk, rfl, rfl⟩ := hrel
    have hlt : k < R.length := by omega
    have hkR : (k : Int) < (R.length : Int) := by omega
    obtain ⟨b1, o1, rfl, _, _, hd1⟩ := F.out.at k (by rw [natL_len]; exact hlt)
    rw [natL_get] at hd1
    obtain ⟨U, hU⟩ : ∃ U, U = R.getD k 0 := ⟨_, rfl⟩
    have hUp : U < p.length := by rw [hU]; exact HRP.out k hlt
    have hUi : (U : Int) < (p.length : Int) := by omega
    obtain ⟨b2, o2, rfl, _, _, hd2⟩ := FK.out.at U (by rw [kindsL_len]; exact hUp)
    rw [kindsL_get] at hd2
    rw [← hU] at hd1
    by_cases hkt : k = t
    · subst hkt
      have e1 : U = v := by rw [hU, HT.out]
      have e2 : kind p U = K := by rw [e1, HK.out]
      rw [e2] at hd2
      clear hU e2
      subst e1
      go_wp2_with fail
      go_ret
      exact ⟨rfl, rfl⟩
    · have hne : kind p U ≠ K := by rw [hU]; exact HNO.out k (by omega)
      obtain ⟨J, hJ⟩ : ∃ J, J = kind p U := ⟨_, rfl⟩
      rw [← hJ] at hd2 hne
      have hbf : ((J : Int) == (K : Int)) = false := beq_eq_false_iff_ne.2 (by omega)
      clear hU hJ hne
      go_wp2_with fail
      go_round
      case rel => exact ⟨k + 1, by omega, by go_num, rfl⟩
      case measure => simp [intOf]; omega

set_option maxRecDepth 8000 in
set_option maxHeartbeats 2000000 in
theorem joinedOf_any (a : Option Addr) (cap : Nat) (p : List (List Int)) (i : Nat) (w : World) (B C : Nat) (h : RdII w B C a p) (hC : C ≤ w.heap.size) (hs : Sq p) (hi : i < p.length) (hl : p.length ≤ 1024) :
    Calls Tryz.prog 88 #[.slice a p.length cap, .int .i64 i] w (RetII 3 35 (joinM p (joinedL p i)) w) := by
  have F := Lib.hid h
  have HS := Lib.hid hs
  clear h hs
  have hii : (i : Int) < (p.length : Int) := by omega
  go_enter Tryz.func88, Tryz.ntmps88
  go_wp2_with fail
  refine (kindsOf_any a cap p w B C F.out hC HS.out hl).mono ?_
  rintro e w1 ⟨ak, ck, rfl, ho, hb⟩
  rw [kindsL_len]
  have HK1 := Lib.hid ho.rd
  have HB1 := Lib.hid hb
  have hz1 : w.heap.size ≤ w1.heap.size := hb.size
  clear ho hb
  obtain ⟨v1, hv1⟩ : ∃ v1, v1 = w1.alloc (.cells #[.slice ak p.length ck] 35) := ⟨_, rfl⟩
  have hv1z : w1.heap.size + 1 ≤ v1.heap.size := by rw [hv1]; simp
  have hv1y : v1.heap.size ≤ w1.heap.size + 1 := by rw [hv1]; simp
  have HV1B := Lib.hid (show Below w1.heap.size w1 v1 by rw [hv1]; exact below_alloc _ _)
  have HV1C := Lib.hid (show v1.heap[w1.heap.size]? = some (.cells #[.slice ak p.length ck] 35 (0, 0)) by rw [hv1]; exact alloc1 _ _)
  have HV1E := Lib.hid hv1
  clear hv1
  go_wp2_with fail
  rw [← HV1E.out]
  have HBV1 := Lib.hid (HB1.out.trans (HV1B.out.mono hz1))
  refine (reachedFrom_any a cap p i v1 B C (F.out.below HBV1.out hC) (by omega) HS.out hi hl).mono ?_
  rintro e w2 ⟨R, ar, cr, rfl, hre, hrl, ho, hb⟩
  have hLL : R = natL (reachL p i) := hre.unique (reachL_is hi)
  subst hLL
  have hpos := hre.pos2 hi
  have HRM : Hid (∀ v, v ∈ reachL p i ↔ v < p.length ∧ Rea p i v) := Lib.hid fun v => reachL_mem hi
  obtain ⟨R, hR⟩ : ∃ R, R = reachL p i := ⟨_, rfl⟩
  rw [← hR] at hrl ho hpos HRM ⊢
  rw [natL_len] at hrl hpos
  have HRE := Lib.hid hR
  rw [natL_len]
  have HR2 := Lib.hid ho.rd
  have HK2 := Lib.hid ((HK1.out.below HV1B.out (Nat.le_refl _)).below hb (by omega))
  have HC2 := Lib.hid (hb.blk HV1C.out (by omega))
  have HB2 := Lib.hid (HBV1.out.trans (hb.mono (by omega)))
  have hz2 : v1.heap.size ≤ w2.heap.size := hb.size
  clear ho hb hR hre HV1E HV1B HV1C HBV1 HB1 HK1
  have hal := alloc2 w2 (.cells #[.slice ar R.length cr] 35) (.cells #[.int .i64 (kind p i)] 3)
  have hbl := (below_alloc w2 (.cells #[.slice ar R.length cr] 35)).alloc (by simp) (.cells #[.int .i64 (kind p i)] 3)
  obtain ⟨b0, o0, ek, _, hb0, hd0⟩ := HK2.out.at i (by rw [kindsL_len]; exact hi)
  rw [kindsL_get] at hd0
  subst ek
  have hb0v : b0 < w2.heap.size := by omega
  obtain ⟨q1, _⟩ := blk1 HC2.out
  obtain ⟨K0, hK0⟩ : ∃ K0, K0 = kind p i := ⟨_, rfl⟩
  rw [← hK0] at hd0 hal hbl
  have hw1v : w1.heap.size < w2.heap.size := by omega
  have HK0 := Lib.hid hK0
  have HAL := Lib.hid hal
  have HBL := Lib.hid hbl
  have HLA : Hid (∃ v, leastAt p R K0 = some v) := Lib.hid (by
    unfold leastAt
    cases e : R.find? fun v => kind p v == K0 with
    | some v => exact ⟨v, rfl⟩
    | none =>
      rw [List.find?_eq_none] at e
      have := e i ((HRM.out i).2 ⟨hi, Rea.refl p i⟩)
      rw [← hK0] at this
      simp at this)
  obtain ⟨i0, hi0⟩ := HLA.out
  have HI0 := Lib.hid hi0
  clear hK0 hal hbl hi0 HLA
  go_wp2_with fail
  refine (leastNode_any ar (some ⟨b0, o0, none⟩) cr ck p R K0 w2.heap.size w1.heap.size _ _ _ _ _ (HR2.out.below HBL.out (Nat.le_refl _)) (HK2.out.below HBL.out (by omega)) (fun k hk => ((HRM.out _).1 (by rw [getD_nat hk]; exact List.getElem_mem hk)).1) (by omega) hl (blk1 HAL.out.1).1 (blk1 (HBL.out.blk HC2.out (by omega))).1 i0 HI0.out).mono ?_
  rintro e w' ⟨rfl, rfl⟩
  have HF0 : Hid (i0 < p.length ∧ Rea p i i0 ∧ kind p i0 = kind p i) := Lib.hid (by
    have h1 := HI0.out
    unfold leastAt at h1
    have h2 := List.find?_some h1
    have h3 := (HRM.out i0).1 (List.mem_of_find?_eq_some h1)
    exact ⟨h3.1, h3.2, by rw [← HK0.out]; simpa using h2⟩)
  have HST := Lib.hid (show OwI (((w2.alloc (.cells #[.slice ar R.length cr] 35)).alloc (.cells #[.int .i64 K0] 3)).alloc (.cells #[.int .i64 i0] 3)) 3 (w2.heap.size + 1) (w2.heap.size + 2) (some ⟨w2.heap.size + 1, 0, none⟩) 1 (kdL p [i0]) from by
    have h1 := OwI_one (w2.alloc (.cells #[.slice ar R.length cr] 35)) 3 K0
    have hz : (w2.alloc (.cells #[.slice ar R.length cr] 35)).heap.size = w2.heap.size + 1 := by simp
    rw [hz] at h1
    have e : kdL p [i0] = [(K0 : Int)] := by show [((kind p i0 : Nat) : Int)] = _; rw [HF0.out.2.2, ← HK0.out]
    rw [e]
    exact h1.agr ((Agr.refl _ _ _).alloc (by simp) _))
  have HSN := Lib.hid (show OwI (((w2.alloc (.cells #[.slice ar R.length cr] 35)).alloc (.cells #[.int .i64 K0] 3)).alloc (.cells #[.int .i64 i0] 3)) 3 (w2.heap.size + 2) (w2.heap.size + 3) (some ⟨w2.heap.size + 1 + 1, 0, none⟩) 1 (natL [i0]) from by
    have h1 := OwI_one ((w2.alloc (.cells #[.slice ar R.length cr] 35)).alloc (.cells #[.int .i64 K0] 3)) 3 i0
    have hz : ((w2.alloc (.cells #[.slice ar R.length cr] 35)).alloc (.cells #[.int .i64 K0] 3)).heap.size = w2.heap.size + 2 := by simp
    rw [hz] at h1
    exact h1)
  have HSB := Lib.hid (show Below (w2.heap.size + 1) (w2.alloc (.cells #[.slice ar R.length cr] 35)) (((w2.alloc (.cells #[.slice ar R.length cr] 35)).alloc (.cells #[.int .i64 K0] 3)).alloc (.cells #[.int .i64 i0] 3)) from
    ((Below.refl _ _).alloc (by simp) _).alloc (by simp) _)
  have HVB := Lib.hid (below_alloc w2 (.cells #[.slice ar R.length cr] 35))
  have HVC := Lib.hid (alloc1 w2 (.cells #[.slice ar R.length cr] 35))
  obtain ⟨v2, hv2⟩ : ∃ v2, v2 = w2.alloc (.cells #[.slice ar R.length cr] 35) := ⟨_, rfl⟩
  have hv2z : w2.heap.size + 1 ≤ v2.heap.size := by rw [hv2]; simp
  have hv2y : v2.heap.size ≤ w2.heap.size + 1 := by rw [hv2]; simp
  rw [← hv2] at HST HSN HSB HVB HVC
  have HV2E := Lib.hid hv2
  clear hv2 HAL HBL hd0 q1
  go_wp2_with fail
  rw [← HV2E.out]
  go_loopw [8, 9, 37] (fun sl sn ci wr => ∃ (k : Nat) (l : List Nat) (x : Option Addr) (c : Nat) (y : Option Addr) (d : Nat), k ≤ R.length ∧ ci = .int .i64 k ∧ l = jfold p i0 (R.take k) ∧ l.length ≤ k + 1 ∧ 1 ≤ l.length ∧ sl = .slice x l.length c ∧ sn = .slice y l.length d ∧
      OwI wr 3 (w2.heap.size + 1) wr.heap.size x c (kdL p l) ∧ OwI wr 3 (w2.heap.size + 1) wr.heap.size y d (natL l) ∧ (∀ b, blockOf x = some b → blockOf y ≠ some b) ∧ Below (w2.heap.size + 1) v2 wr) (fun _ _ ci _ => R.length - (intOf ci).toNat)
  case atStart => exact ⟨0, [i0], _, 1, _, 1, Nat.zero_le _, rfl, rfl, by simp, by simp, rfl, rfl, HST.out.mono (Nat.le_refl _) (by simp; omega), HSN.out.mono (by omega) (by simp; omega), fun b h1 h2 => by simp [blockOf] at h1 h2; omega, HSB.out⟩
  case round =>
    obtain ⟨k, l, x, c, y, d, hk, rfl, hl1, hll, hl0, rfl, rfl, hox, hoy, hxy, hb⟩ := hrel
    have HLE := Lib.hid hl1
    have HX := Lib.hid hox
    have HY := Lib.hid hoy
    have HXY := Lib.hid hxy
    have HB := Lib.hid hb
    have hzr : w2.heap.size + 1 ≤ wr.heap.size := by have := hb.size; omega
    have HBW := Lib.hid (show Below w2.heap.size w2 wr from HVB.out.trans (hb.mono (by omega)))
    clear hl1 hox hoy hxy hb HST HSN HSB
    by_cases hlt : k < R.length
    · have hki : (k : Int) < (R.length : Int) := by omega
      obtain ⟨V, hV⟩ : ∃ V, V = R.getD k 0 := ⟨_, rfl⟩
      have hVp : V < p.length := ((HRM.out V).1 (by rw [hV, getD_nat hlt]; exact List.getElem_mem hlt)).1
      have hVi : (V : Int) < (p.length : Int) := by omega
      have HJS : Hid (jfold p i0 (R.take (k + 1)) = jstep p l V) := Lib.hid (by
        rw [List.take_succ_eq_append_getElem hlt, jfold_snoc, ← HLE.out, hV, getD_nat hlt])
      obtain ⟨b1, o1, e1, _, hb1, hd1⟩ := (HR2.out.below HBW.out (Nat.le_refl _)).at k (by rw [natL_len]; exact hlt)
      rw [natL_get, ← hV] at hd1
      obtain ⟨b2, o2, e2, _, hb2, hd2⟩ := (HK2.out.below HBW.out (by omega)).at V (by rw [kindsL_len]; exact hVp)
      rw [kindsL_get] at hd2
      obtain ⟨q1, _⟩ := blk1 (HBW.out.blk HC2.out hw1v)
      have hb1w : b1 < wr.heap.size := by omega
      have hb2w : b2 < wr.heap.size := by omega
      have hw1w : w1.heap.size < wr.heap.size := by omega
      have HCON := Lib.hid (contains_any x c (kdL p l) ((kind p V : Nat) : Int) wr _ _ HX.out.rd (by rw [kdL_len]; omega))
      rw [kdL_mem, kdL_len] at HCON
      subst e1
      cases e2
      obtain ⟨KV, hKV⟩ : ∃ KV, KV = kind p V := ⟨_, rfl⟩
      rw [← hKV] at hd2
      have HKV := Lib.hid hKV
      clear hV
      cases hany : l.any fun u => kind p u == kind p V
      · have HN : Hid (jfold p i0 (R.take (k + 1)) = l ++ [V]) := Lib.hid (by rw [HJS.out]; unfold jstep; rw [hany]; rfl)
        rw [hany, ← hKV] at HCON
        clear hany hKV
        have hlb : l.length ≤ 1048576 := by omega
        go_wp2_with fail
        refine HCON.out.mono ?_
        rintro e w' ⟨rfl, rfl⟩
        go_wp2_with (at_builtin; first
          | (refine wpList_appI Tryz.underlying35 Tryz.infoInt _ rfl (.tmp 48) (.tmp 53) rfl (w2.heap.size + 1) wr.heap.size x c (kdL p l) (by rw [kdL_len]; rfl) (HX.out.agr ((Agr.refl _ _ _).alloc (Nat.le_refl _) _)) (by simp; omega) ⟨wr.heap.size, 0, none⟩ KV rfl (new_cellE _ _ _ rfl) (by rw [kdL_len]; omega) ?_; intro g3 c3 w3 hown3 hgrow3 hat3 hg3; rw [kdL_len]; have HX3 := Lib.hid hown3; have HC3 := Lib.hid (((Chg.refl (fun b => blockOf x = some b) wr).alloc _).grown hgrow3 (fun k hk => .inl hk)); have HB3 := Lib.hid (below_app HB.out hgrow3 (HX.out.app_in (Nat.le_refl _)) (Nat.le_refl _) hv2z); have HY3 := Lib.hid (HY.out.keep HC3.out (fun b h1 h2 => HXY.out b h2 h1)); have hz3 : wr.heap.size + 1 ≤ w3.heap.size := (by have := hgrow3.size; simpa using this); have HG3 : Hid (blockOf x = some g3 ∨ wr.heap.size ≤ g3) := Lib.hid (hat3.imp id (fun h => by simp at h; omega)); clear hown3 hgrow3 hat3; have hb1w3 : b1 < w3.heap.size := (by omega))
          | (go_loud (refine wpList_appI Tryz.underlying35 Tryz.infoInt _ rfl (.tmp 55) (.tmp 57) rfl (w2.heap.size + 1) wr.heap.size y d (natL l) (by rw [natL_len]; rfl) (HY3.out.agr ((Agr.refl _ _ _).alloc (by omega) _)) (by simp; omega) ⟨w3.heap.size, 0, none⟩ V rfl (new_cellE _ _ _ rfl) (by rw [natL_len]; omega) ?_); intro g4 c4 w4 hown4 hgrow4 hat4 hg4; rw [natL_len]; have HY4 := Lib.hid hown4; have HC4 := Lib.hid (((Chg.refl (fun b => blockOf y = some b) w3).alloc _).grown hgrow4 (fun k hk => .inl hk)); have HB4 := Lib.hid (below_app HB3.out hgrow4 (HY.out.app_in (Nat.le_refl _)) (Nat.le_refl _) hv2z); have hz4 : w3.heap.size + 1 ≤ w4.heap.size := (by have := hgrow4.size; simpa using this); have HG4 : Hid (blockOf y = some g4 ∨ w3.heap.size ≤ g4) := Lib.hid (hat4.imp id (fun h => by simp at h; omega)); clear hown4 hgrow4 hat4))
        have HX4 := Lib.hid (HX3.out.keep HC4.out (fun b h1 h2 => by
          simp [blockOf] at h1
          subst h1
          rcases HG3.out with h | h
          · exact HXY.out _ h h2
          · have := HY.out.block_in h2; omega))
        go_roundw
        case rel =>
          refine ⟨k + 1, l ++ [V], some ⟨g3, 0, none⟩, c3, some ⟨g4, 0, none⟩, c4, by omega, by go_num, HN.out.symm, by rw [List.length_append]; show l.length + 1 ≤ _; omega, by rw [List.length_append]; show 1 ≤ l.length + 1; omega, by rw [List.length_append]; rfl, by rw [List.length_append]; rfl, ?_, by rw [natL_snoc]; exact HY4.out, fun b h1 h2 => ?_, HB4.out⟩
          · rw [kdL_snoc, ← HKV.out]; exact HX4.out.mono (Nat.le_refl _) (by omega)
          · simp [blockOf] at h1 h2
            subst h1
            subst h2
            rcases HG4.out with h4 | h4
            · rcases HG3.out with h3 | h3
              · exact HXY.out _ h3 h4
              · have := HY.out.block_in h4; omega
            · omega
        case measure => simp [intOf]; omega
      · have HN : Hid (jfold p i0 (R.take (k + 1)) = l) := Lib.hid (by rw [HJS.out]; unfold jstep; rw [hany]; rfl)
        rw [hany, ← hKV] at HCON
        clear hany hKV
        go_wp2_with fail
        refine HCON.out.mono ?_
        rintro e w' ⟨rfl, rfl⟩
        go_wp2_with fail
        go_roundw
        case rel => exact ⟨k + 1, l, x, c, y, d, by omega, by go_num, HN.out.symm, by omega, hl0, rfl, rfl, HX.out, HY.out, HXY.out, HB.out⟩
        case measure => simp [intOf]; omega
    · obtain rfl : k = R.length := by omega
      have HFIT := Lib.hid (show Fit p i l by
        rw [HLE.out, List.take_of_length_le (Nat.le_refl _)]
        exact jfold_fit2 HF0.out.1 HF0.out.2.1 HF0.out.2.2 HRM.out)
      have HEND := Lib.hid (show joinM p l = joinM p (joinedL p i) by
        refine joinM_kinds ?_ (fun a ha => (HFIT.out.node a ha).1) fun a ha => ((joinedL_fit hi).node a ha).1
        rw [HLE.out, List.take_of_length_le (Nat.le_refl _), HRE.out]
        exact jfold_kinds HF0.out.2.2 _)
      have hlp : l.length ≤ p.length := HFIT.out.len
      have HBP := Lib.hid (F.out.below ((HB2.out.trans (HBW.out.mono (by omega))) : Below w.heap.size w wr) hC)
      have HK5 := Lib.hid (HK2.out.below HBW.out (by omega))
      have HC5 := Lib.hid (HBW.out.blk HC2.out hw1v)
      have hw1r : w1.heap.size < wr.heap.size := by omega
      have HBB := Lib.hid ((HB2.out.trans (HBW.out.mono (by omega))) : Below w.heap.size w wr)
      obtain ⟨w4, hw4⟩ : ∃ x, x = wr := ⟨_, rfl⟩
      subst hw4
      clear HRE HLE HB HBW HXY HK2 HC2 HB2 HR2
      go_wp2_with fail
      refine (emptyPicture_any l.length w4 (by omega)).mono ?_
      rintro e w5 ⟨xa, xc, rfl, ho5, hb5⟩
      rw [mat_len]
      obtain ⟨F2, hF2⟩ : ∃ F2 : Nat → Nat → Bool, F2 = fun a b => arrK p (l.getD a 0) (l.getD b 0) := ⟨_, rfl⟩
      have HF2 := Lib.hid hF2
      clear hF2
      have HO5 := Lib.hid ho5
      have HB5 := Lib.hid hb5
      have hz5 : w4.heap.size ≤ w5.heap.size := hb5.size
      clear ho5 hb5
      go_wp2_with fail
      go_loopw [65] (fun ti wr => ∃ t : Nat, t ≤ l.length ∧ ti = .int .i64 t ∧ OwII wr 3 35 w4.heap.size w5.heap.size xa xc (mat l.length l.length (upB t 0 F2)) ∧ Below w4.heap.size w4 wr ∧ w5.heap.size ≤ wr.heap.size) (fun ti _ => l.length - (intOf ti).toNat)
      case atStart => exact ⟨0, Nat.zero_le _, rfl, HO5.out.matCongr (fun x y _ _ => (upB_start x y).symm), HB5.out, Nat.le_refl _⟩
      case round =>
        obtain ⟨t, ht, rfl, ho, hb, hz⟩ := hrel
        have HO := Lib.hid ho
        have HB := Lib.hid hb
        clear ho hb HO5 HB5
        obtain ⟨w6, hw6⟩ : ∃ x, x = wr := ⟨_, rfl⟩
        subst hw6
        by_cases hlt : t < l.length
        · obtain ⟨U, hU⟩ : ∃ U, U = l.getD t 0 := ⟨_, rfl⟩
          have hUp : U < p.length := by rw [hU]; exact (HFIT.out.node t hlt).1
          have HUR := Lib.hid (show Rea p i U by rw [hU]; exact (HFIT.out.node t hlt).2)
          obtain ⟨b1, o1, e1, _, hb1, hd1⟩ := (HY.out.rd.below HB.out (Nat.le_refl _)).at t (by rw [natL_len]; exact hlt)
          rw [natL_get, ← hU] at hd1
          have hb1w : b1 < w6.heap.size := by omega
          have hti : (t : Int) < (l.length : Int) := by omega
          have HU := Lib.hid hU
          clear hU
          subst e1
          go_wp2_with fail
          refine (arrowsOf_any a cap p U w6 B C (HBP.out.below HB.out (by omega)) (by omega) HS.out hUp hl).mono ?_
          rintro e w7 ⟨za, zc, rfl, ho7, hb7⟩
          obtain ⟨Z, hZ⟩ : ∃ Z, Z = arrL p U p.length := ⟨_, rfl⟩
          rw [← hZ] at ho7 ⊢
          have hzl : Z.length ≤ p.length := by rw [hZ]; exact arrL_le _ _ _
          have HZ := Lib.hid hZ
          have HO7 := Lib.hid (HO.out.below hb7 (by omega))
          have HB7 := Lib.hid (HB.out.trans (hb7.mono (by omega)))
          have HZ7 := Lib.hid (ho7.rd)
          have hz7 : w6.heap.size ≤ w7.heap.size := hb7.size
          clear ho7 hb7 hZ hd1
          go_wp2_with fail
          go_loopw [74] (fun si wr => ∃ s : Nat, s ≤ Z.length ∧ si = .int .i64 s ∧ OwII wr 3 35 w4.heap.size w5.heap.size xa xc (mat l.length l.length fun x y => if x = t then rowT' p l U s y else upB t 0 F2 x y) ∧ Below w4.heap.size w4 wr ∧ w7.heap.size ≤ wr.heap.size ∧ RdI wr w6.heap.size w7.heap.size za Z) (fun si _ => Z.length - (intOf si).toNat)
          case atStart => exact ⟨0, Nat.zero_le _, rfl, HO7.out.matCongr (fun x y _ _ => by
            by_cases e : x = t
            · rw [if_pos e]; subst e; unfold upB rowT'; simp
            · rw [if_neg e]), HB7.out, Nat.le_refl _, HZ7.out⟩
          case round =>
            obtain ⟨s, hs, rfl, ho, hb, hz8, hr8⟩ := hrel
            have HO8 := Lib.hid ho
            have HB8 := Lib.hid hb
            have HR8 := Lib.hid hr8
            clear ho hb hr8
            obtain ⟨w8, hw8⟩ : ∃ x, x = wr := ⟨_, rfl⟩
            subst hw8
            by_cases hlt2 : s < Z.length
            · have hZs : Z[s] ∈ arrL p U p.length := by rw [← HZ.out]; exact List.getElem_mem hlt2
              obtain ⟨j, hj, hjp, hja⟩ := arrL_mem.1 hZs
              obtain ⟨m, hm, hme⟩ := HFIT.out.all j hjp (HUR.out.step hUp hja)
              have HIX := Lib.hid (kdL_idx HFIT.out hm hme)
              obtain ⟨b2, o2, e2, _, hb2, hd2⟩ := HR8.out.at s hlt2
              rw [hj] at hd2
              obtain ⟨b3, o3, e3, _, hb3, hd3⟩ := (HK5.out.below HB8.out (by omega)).at j (by rw [kindsL_len]; exact hjp)
              rw [kindsL_get] at hd3
              obtain ⟨q1, _⟩ := blk1 (HB8.out.blk HC5.out hw1r)
              obtain ⟨KJ, hKJ⟩ : ∃ KJ, KJ = kind p j := ⟨_, rfl⟩
              have HIN := Lib.hid (index_any x c (kdL p l) ((kind p j : Nat) : Int) w8.drew _ _ ((HX.out.rd.below HB8.out (Nat.le_refl _)).agr ((Agr.refl _ _ _).drew)) (by rw [kdL_len]; omega))
              rw [HIX.out, kdL_len, ← hKJ] at HIN
              rw [← hKJ] at hd3
              obtain ⟨g, r, ci, e4, hg1, hg2, hg3, hh, hr1, hr2, hr3, hq1, hq2, hgr, hput⟩ := HO8.out.bitAt t m hlt hm
              have HPUT := Lib.hid (hput true (fun x y => if x = t then rowT' p l U (s + 1) y else upB t 0 F2 x y) (fun x y hx hy => by
                by_cases ex : x = t
                · rw [if_pos ex]
                  have h1 := rowT'_succ (p := p) (l := l) (u := U) (t := s) (x := y) (by rw [← HZ.out]; exact hlt2)
                  have h2 : ((arrL p U p.length)[s]'(by rw [← HZ.out]; exact hlt2)).toNat = j := by
                    have : (arrL p U p.length)[s]'(by rw [← HZ.out]; exact hlt2) = Z[s] := by congr 1; exact HZ.out.symm
                    rw [this, hj]; rfl
                  rw [h1, h2, ← hme]
                  by_cases ey : y = m
                  · subst ey; simp [ex]
                  · rw [if_neg (fun h => ey h.2), if_pos ex]
                    have h3 : kind p (l.getD m 0) ≠ kind p (l.getD y 0) := by
                      rcases Nat.lt_or_gt_of_ne ey with h | h
                      · exact (HFIT.out.apart y m h hm).symm
                      · exact HFIT.out.apart m y h hy
                    rw [beq_eq_false_iff_ne.2 h3, Bool.or_false]
                · rw [if_neg ex, if_neg (fun h => ex h.1), if_neg ex]))
              have hrB : w4.heap.size ≤ r := by omega
              have hti2 : (t : Int) < (l.length : Int) := by omega
              have hsi : (s : Int) < (Z.length : Int) := by omega
              have hji : (j : Int) < (p.length : Int) := by omega
              have hmi : (m : Int) < (l.length : Int) := by omega
              have hb2w : b2 < w8.heap.size := by omega
              have hb3w : b3 < w8.heap.size := by omega
              have hw1w : w1.heap.size < w8.heap.size := by omega
              clear hj hja hme hKJ hZs hput
              subst e2
              cases e3
              cases e4
              go_wp2_with fail
              go_still_tail 11, (by kernel_rfl)
              still_call (HIN.out.mono fun e w' h => ⟨h.1, h.2.symm⟩)
              repeat still_step
              refine wpStill_nil ?_
              go_wp2_with fail
              go_roundw
              case rel =>
                exact ⟨s + 1, by omega, by go_num, HPUT.out, (HB8.out.drew).setCell hrB _, by have := hz8; simpa using this, HR8.out.agr (((Agr.refl _ _ _).drew).set (.inl (by omega)) _)⟩
              case measure => simp [intOf]; omega
            · obtain rfl : s = Z.length := by omega
              go_wp2_with fail
              go_roundw
              case rel => exact ⟨t + 1, by omega, by go_num, HO8.out.matCongr (fun x y hx hy => by
                by_cases e : x = t
                · subst e
                  have h1 : rowT' p l U Z.length y = arrK p U (l.getD y 0) := by rw [HZ.out]; exact rowT'_all
                  rw [if_pos rfl, h1]; unfold upB; rw [HF2.out, HU.out]; simp
                · rw [if_neg e]; unfold upB; rw [Bool.eq_iff_iff]; simp; omega), HB8.out, by omega⟩
              case measure => simp [intOf]; omega
        · obtain rfl : t = l.length := by omega
          go_wp2_with fail
          go_ret
          refine ⟨xa, xc, ?_, ?_, ?_⟩
          · have h9 := congrArg List.length HEND.out
            rw [joinM_len] at h9
            rw [← h9]
            rfl
          · rw [← HEND.out]
            refine ((HO.out.matCongr (g := fun a b => arrK p (l.getD a 0) (l.getD b 0)) (fun x y hx _ => by rw [upB_end x y hx, HF2.out])).mono ?_ hz)
            have := HBB.out.size
            omega
          · exact HBB.out.trans (HB.out.mono (by have := HBB.out.size; omega))

end Go.Proofs.YtfjodcfbhpglhaaGreatDoor
